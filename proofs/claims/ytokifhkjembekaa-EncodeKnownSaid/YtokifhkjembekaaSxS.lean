/- Contracts of Go's library at this program, laid by the shelf; and what the evaluator is told of them. Conditions: none. -/
import Derived.Test.YtokifhkjembekaaChecked
import Derived.Test.YtokifhkjembekaaSxR
import Derived.Lib.Strings
import Derived.Lib.Slices
import Derived.Lib.Walk
import Derived.Lib.Bytealg
import Derived.KernelRfl
namespace Go.Proofs

set_option maxHeartbeats 1000000 in
set_option maxRecDepth 100000 in
theorem Try.stringslite_IndexByte (s : ByteArray) (c : Int) (w : World) :
    Calls Try.prog 74 #[.string s, .int .u8 c] w fun e w' => e = .returned (.int .i64 (Lib.indexByte s.data.toList c.toNat.toUInt8)) ∧ w' = w := by
  go_enter Try.func74, Try.ntmps74
  go_wp2
  rw [run_callFunc_extern Try.func78 (by kernel_rfl) (by kernel_rfl) (by kernel_rfl) (e := Extern.BytealgIndexByte.indexByte) (by kernel_rfl), Lib.run_indexByteString]
  simp only [Result.andThen]
  rw [Oper.upon_value]
  go_wp2
  go_ret
  exact ⟨rfl, rfl⟩

set_option maxHeartbeats 1000000 in
theorem Try.strings_IndexByte (s : ByteArray) (c : Int) (w : World) :
    Calls Try.prog 73 #[.string s, .int .u8 c] w fun e w' => e = .returned (.int .i64 (Lib.indexByte s.data.toList c.toNat.toUInt8)) ∧ w' = w := by
  go_enter Try.func73, Try.ntmps73
  go_wp2_with (go_at_call 74; refine (Try.stringslite_IndexByte _ _ _).mono ?_; rintro e w' ⟨rfl, rfl⟩)
  go_ret
  exact ⟨rfl, rfl⟩

set_option maxHeartbeats 2000000 in
set_option maxRecDepth 100000 in
theorem Try.stringslite_Index_one (s : ByteArray) (c : UInt8) (w : World) :
    Calls Try.prog 72 #[.string s, .string ⟨#[c]⟩] w fun e w' => e = .returned (.int .i64 (Lib.indexByte s.data.toList c)) ∧ w' = w := by
  go_enter Try.func72, Try.ntmps72
  go_wp2_with (go_at_call 74; refine (Try.stringslite_IndexByte _ _ _).mono ?_; rintro e w' ⟨rfl, rfl⟩)
  · have h : ([c] == s.toList) = true := by assumption
    go_ret
    refine ⟨?_, rfl⟩
    have e : s.data.toList = [c] := by rw [← Lib.toList_data]; exact (beq_iff_eq.1 h).symm
    rw [e]
    simp [Lib.indexByte]
  · go_ret
    exact ⟨rfl, rfl⟩

set_option maxHeartbeats 1000000 in
theorem Try.strings_Index_one (s : ByteArray) (c : UInt8) (w : World) :
    Calls Try.prog 68 #[.string s, .string ⟨#[c]⟩] w fun e w' => e = .returned (.int .i64 (Lib.indexByte s.data.toList c)) ∧ w' = w := by
  go_enter Try.func68, Try.ntmps68
  go_wp2_with (go_at_call 72; refine (Try.stringslite_Index_one _ _ _).mono ?_; rintro e w' ⟨rfl, rfl⟩)
  go_ret
  exact ⟨rfl, rfl⟩

set_option maxHeartbeats 1000000 in
theorem Try.strings_Contains_one (s : ByteArray) (c : UInt8) (w : World) :
    Calls Try.prog 58 #[.string s, .string ⟨#[c]⟩] w fun e w' => e = .returned (.bool (decide (0 ≤ Lib.indexByte s.data.toList c))) ∧ w' = w := by
  go_enter Try.func58, Try.ntmps58
  go_wp2_with (go_at_call 68; refine (Try.strings_Index_one _ _ _).mono ?_; rintro e w' ⟨rfl, rfl⟩)
  go_ret
  exact ⟨rfl, rfl⟩

namespace Sym
open Go.Sx

theorem noCount_of (P : Program) (h : (P.funcs.toList.all fun fn => !(fn.name == "runtime.NumGoroutine")) = true) : NoCount P := by
  intro f fn hf
  have hm : fn ∈ P.funcs.toList := Array.mem_toList_iff.2 (Array.mem_of_getElem? hf)
  have := List.all_eq_true.1 h fn hm
  simpa using this

theorem noCount : NoCount Try.prog := noCount_of _ (by kernel_rfl)

theorem follows : Try.prog.follows .mixedOrders = true := by kernel_rfl

/-- A call that turns nothing and yields a value. -/
theorem callW_quiet {P : Program} {f : FuncId} {args : List AV} {n : Nat} {L : Log} {v : AV} (hv : ∀ V, v.ok V) (h : ∀ φ w, Calls P f (concs φ args).toArray w fun e w' => e = .returned (conc φ v) ∧ w' = w) :
    CallW P f args n L (v, n, []) := by
  refine ⟨Nat.le_refl _, fun φ V w Post _ _ hs hK => (h φ w).mono ?_⟩
  rintro e w' ⟨rfl, rfl⟩
  simp only [Add.same] at hK
  exact hK φ w' (Step.refl hs) (hv V)

/-- Contains and IndexByte at known strings. -/
noncomputable def libBook : Book := fun f args n _ =>
  match f, args with
  | 58, [.c (.string x), .c (.string y)] => match y.data.toList with
    | [c] => some (.ret (.c (.bool (decide (0 ≤ Lib.indexByte x.data.toList c))), n, []))
    | _ => none
  | 73, [.c (.string x), .c (.int .u8 c)] => some (.ret (.c (.int .i64 (Lib.indexByte x.data.toList c.toNat.toUInt8)), n, []))
  | _, _ => none

theorem libBook_ok : BookOK Try.prog libBook := by
  intro f args n L t h r hr
  unfold libBook at h
  split at h
  · rename_i x y
    split at h
    · rename_i c hc
      cases h; cases hr
      refine callW_quiet (fun V => trivial) fun φ w => ?_
      have hy : y = ⟨#[c]⟩ := by
        cases y with
        | mk d => congr 1; exact Array.ext' hc
      subst hy
      exact Try.strings_Contains_one x c w
    · cases h
  · rename_i x c
    cases h; cases hr
    exact callW_quiet (fun V => trivial) fun φ w => Try.strings_IndexByte x c w
  · cases h

end Sym
end Go.Proofs
