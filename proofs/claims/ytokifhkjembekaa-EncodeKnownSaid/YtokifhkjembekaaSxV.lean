/- EncodeKnown: it answers true. Conditions: none. -/
import Derived.Test.YtokifhkjembekaaSxT
namespace Go.Proofs
namespace Sym
open Go.Sx
set_option maxRecDepth 100000

noncomputable def table : List (List AV × (Nat → CR)) :=
  [(kArgs0, kAns0), (kArgs1, kAns1), (kArgs2, kAns2), (kArgs3, kAns3), (kArgs4, kAns4), (kArgs5, kAns5), (kArgs6, kAns6), (kArgs7, kAns7), (kArgs8, kAns8), (kArgs9, kAns9), (kArgs10, kAns10), (kArgs11, kAns11), (kArgs12, kAns12), (kArgs13, kAns13), (kArgs14, kAns14), (kArgs15, kAns15), (kArgs16, kAns16)]

theorem table_told : ∀ e ∈ table, ∀ n, told 7 [.agg e.1] n = some (e.2 n) := by
  simp only [table, List.forall_mem_cons]
  exact ⟨kTold0, kTold1, kTold2, kTold3, kTold4, kTold5, kTold6, kTold7, kTold8, kTold9, kTold10, kTold11, kTold12, kTold13, kTold14, kTold15, kTold16, fun e he => (by cases he)⟩

noncomputable def findIn (cs : List AV) (n : Nat) : List (List AV × (Nat → CR)) → Option CR
  | [] => none
  | e :: r => bif sameCells cs e.1 then some (e.2 n) else findIn cs n r

theorem findIn_spec {cs : List AV} {n : Nat} {r : CR} : ∀ {l : List (List AV × (Nat → CR))}, findIn cs n l = some r → ∃ e ∈ l, sameCells cs e.1 = true ∧ r = e.2 n
  | [], h => by cases h
  | e :: l, h => by
    simp only [findIn] at h
    cases hs : sameCells cs e.1 with
    | true => rw [hs] at h; cases h; exact ⟨e, List.mem_cons_self, hs, rfl⟩
    | false =>
      rw [hs] at h
      obtain ⟨e', h1, h2⟩ := findIn_spec h
      exact ⟨e', List.mem_cons_of_mem _ h1, h2⟩

theorem sameCells_scal : ∀ {xs ys : List AV}, sameCells xs ys = true → ys.all scal = true
  | [], [], _ => rfl
  | [], _ :: _, h => by cases h
  | _ :: _, [], h => by cases h
  | x :: xs, y :: ys, h => by
    simp only [sameCells, Bool.and_eq_true] at h
    obtain ⟨h1, h2⟩ := h
    rw [List.all_cons, sameCells_scal h2, Bool.and_true]
    split at h1
    · rename_i a b _ hb
      cases y <;> first | rfl | (cases hb)
    · cases h1

theorem agg_scal {cs : List AV} (h : cs.all scal = true) : (∀ V, AV.oks V [.agg cs]) ∧ ∀ φ φ', concs φ [.agg cs] = concs φ' [.agg cs] := by
  refine ⟨fun V => ⟨oks_iff.2 fun v hv => scal_ok (List.all_eq_true.1 h v hv) V, trivial⟩, fun φ φ' => ?_⟩
  simp only [concs, conc]
  rw [concs_eq, concs_eq]
  rw [List.map_congr_left fun v hv => scal_conc (List.all_eq_true.1 h v hv) φ φ']

noncomputable def knownBook : Book := fun f args n L =>
  match f, args with
  | 7, [.agg cs] => match findIn cs n table with
    | some r => some (.ret r)
    | none => none
  | 10, [] => some (.ret (.c (.bool true), n, []))
  | f, args => libBook f args n L

theorem isTrue_spec {o : Option CR} (h : isTrue o = true) : ∃ v n D, o = some (v, n, D) ∧ ∀ φ, conc φ v = .bool true := by
  unfold isTrue at h
  split at h
  · subst h; exact ⟨_, _, _, rfl, fun φ => rfl⟩
  · subst h; exact ⟨_, _, _, rfl, fun φ => rfl⟩
  · cases h

theorem live_told (n : Nat) (L : Log) : CallW Try.prog 10 [] n L (.c (.bool true), n, []) := by
  have h : told 10 [] n = some (.c (.bool true), n, []) ∨ told 10 [] n = some (.s (.bool true), n, []) := by
    have h0 := live_true
    unfold told at h0 ⊢
    cases hr : (callK 10 [] 0 []).run with
    | none => rw [hr] at h0; cases h0
    | some r =>
      rw [hr] at h0
      obtain ⟨v, n1, D⟩ := r
      simp only [Option.bind_some] at h0 ⊢
      unfold summ at h0 ⊢
      cases v with
      | c x =>
        simp only [] at h0 ⊢
        cases x <;> first | (cases h0; done) | skip
        rename_i b
        have : b = true := h0
        subst this
        exact .inl rfl
      | s x =>
        simp only [] at h0 ⊢
        cases x <;> first | (cases h0; done) | skip
        rename_i b
        have : b = true := h0
        subst this
        exact .inr rfl
      | tup l =>
        simp only [] at h0
        cases hs : sumVals D l 0 [] with
        | none => rw [hs] at h0; cases h0
        | some p => rw [hs] at h0; cases h0
      | _ => cases h0
  rcases h with h | h
  · exact told_ok h ⟨fun V => trivial, fun φ φ' => rfl⟩
  · obtain ⟨h1, h2⟩ := told_ok (L := L) h ⟨fun V => trivial, fun φ φ' => rfl⟩
    exact ⟨h1, fun φ V w Post hc ha hs hK => h2 φ V w Post hc ha hs fun φ' w' st hok => hK φ' w' st trivial⟩

theorem knownBook_ok : BookOK Try.prog knownBook := by
  intro f args n L t h r hr
  unfold knownBook at h
  split at h
  · rename_i cs
    split at h
    · rename_i r0 hf
      cases h; cases hr
      obtain ⟨e, he, hs, rfl⟩ := findIn_spec hf
      have hcl := agg_scal (sameCells_scal hs)
      obtain ⟨h1, h2⟩ := told_ok (L := L) (table_told e he n) hcl
      refine ⟨h1, fun φ V w Post hc _ hsat hK => ?_⟩
      have := h2 φ V w Post hc (hcl.1 V) hsat hK
      simp only [concs, conc] at this ⊢
      rw [sameCells_spec hs φ φ]; exact this
    · cases h
  · cases h; cases hr; exact live_told n L
  · exact libBook_ok f args n L t h r hr

noncomputable def callF : CallF := evCall Try.prog knownBook (drawEv Try.prog) 400 40

theorem callF_ok : CallsOK Try.prog callF := evCall_spec knownBook_ok (drawEv_spec follows noCount) noCount 40

theorem known_true : isTrue (callF 3 [] 0 []).run = true := by kernel_rfl

end Sym
end Go.Proofs
