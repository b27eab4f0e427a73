/- EncodeKnown: what its instructions are encoded as. Conditions: none. -/
import Derived.Test.YtokifhkjembekaaSxU
import Derived.Test.YtokifhkjembekaaSxS
namespace Go.Proofs
namespace Sym
open Go.Sx
set_option maxRecDepth 100000

noncomputable def callK : CallF := evCall Try.prog libBook (drawEv Try.prog) 400 40

theorem callK_ok : CallsOK Try.prog callK := evCall_spec libBook_ok (drawEv_spec follows noCount) noCount 40

noncomputable def told (f : FuncId) (args : List AV) (n : Nat) : Option CR := (callK f args 0 []).run.bind (summ n)

theorem told_ok {f : FuncId} {args : List AV} {n : Nat} {r : CR} {L : Log} (h : told f args n = some r) (ha : (∀ V, AV.oks V args) ∧ ∀ φ φ', concs φ args = concs φ' args) : CallW Try.prog f args n L r := by
  unfold told at h
  obtain ⟨r0, h0, h1⟩ := Option.bind_eq_some_iff.1 h
  exact CallW.told (callK_ok f args 0 [] r0 h0) (.inr ha) h1

def eqV : Value → Value → Bool
  | .int k x, .int l y => decide (k = l) && decide (x = y)
  | .bool x, .bool y => x == y
  | .string x, .string y => x.data.toList == y.data.toList
  | _, _ => false

theorem eqV_spec {a b : Value} (h : eqV a b = true) : a = b := by
  unfold eqV at h
  split at h
  · simp only [Bool.and_eq_true, decide_eq_true_eq] at h; rw [h.1, h.2]
  · rw [eq_of_beq h]
  · rename_i x y
    have hl := eq_of_beq h
    cases x with
    | mk d => cases y with
      | mk e => rw [show d = e from Array.ext' hl]
  · cases h

def unTag : AV → Option Value
  | .c v => some v
  | .s v => some v
  | _ => none

def sameCells : List AV → List AV → Bool
  | [], [] => true
  | x :: xs, y :: ys => (match unTag x, unTag y with | some a, some b => eqV a b | _, _ => false) && sameCells xs ys
  | _, _ => false

theorem unTag_conc {x : AV} {a : Value} (h : unTag x = some a) (φ : Phi) : conc φ x = a := by
  cases x <;> first | (cases h; rfl) | (cases h)

theorem sameCells_spec : ∀ {xs ys : List AV}, sameCells xs ys = true → ∀ φ φ', concs φ xs = concs φ' ys
  | [], [], _, _, _ => rfl
  | [], _ :: _, h, _, _ => by cases h
  | _ :: _, [], h, _, _ => by cases h
  | x :: xs, y :: ys, h, φ, φ' => by
    simp only [sameCells, Bool.and_eq_true] at h
    obtain ⟨h1, h2⟩ := h
    split at h1
    · rename_i a b ha hb
      simp only [concs]
      rw [unTag_conc ha, unTag_conc hb, eqV_spec h1, sameCells_spec h2 φ φ']
    · cases h1

def kArgs0 : List AV := [.c (.int .i64 1), .c (.int .i64 8), .c (.int .i64 0), .c (.int .i64 1), .c (.int .i64 3), .c (.int .i64 0), .c (.int .i64 0), .c (.int .i64 0), .c (.bool false), .c (.bool false), .c (.int .i64 0), .c (.string ⟨#[]⟩), .c (.int .i64 0), .c (.int .i64 1), .c (.int .i64 0), .c (.int .i64 0), .c (.int .i64 0), .c (.int .i64 0), .c (.bool false), .c (.bool false), .c (.int .i64 0), .c (.string ⟨#[]⟩), .c (.int .i64 0), .c (.bool false)]
def kAns0 (n : Nat) : CR := (.tup [.slc n 3, .c (.slice none 0 0), .c (.int .i64 0)], n + 1, [.new n 5 none [.c (.int .u8 72), .c (.int .u8 137), .c (.int .u8 195)]])
def kArgs1 : List AV := [.c (.int .i64 1), .c (.int .i64 4), .c (.int .i64 0), .c (.int .i64 1), .c (.int .i64 0), .c (.int .i64 0), .c (.int .i64 0), .c (.int .i64 0), .c (.bool false), .c (.bool false), .c (.int .i64 0), .c (.string ⟨#[]⟩), .c (.int .i64 0), .c (.int .i64 2), .c (.int .i64 0), .c (.int .i64 0), .c (.int .i64 0), .c (.int .i64 0), .c (.bool false), .c (.bool false), .c (.int .i64 1), .c (.string ⟨#[]⟩), .c (.int .i64 0), .c (.bool false)]
def kAns1 (n : Nat) : CR := (.tup [.slc n 5, .c (.slice none 0 0), .c (.int .i64 0)], n + 1, [.new n 5 none [.c (.int .u8 184), .c (.int .u8 1), .c (.int .u8 0), .c (.int .u8 0), .c (.int .u8 0)]])
def kArgs2 : List AV := [.c (.int .i64 1), .c (.int .i64 8), .c (.int .i64 0), .c (.int .i64 1), .c (.int .i64 0), .c (.int .i64 0), .c (.int .i64 0), .c (.int .i64 0), .c (.bool false), .c (.bool false), .c (.int .i64 0), .c (.string ⟨#[]⟩), .c (.int .i64 0), .c (.int .i64 2), .c (.int .i64 0), .c (.int .i64 0), .c (.int .i64 0), .c (.int .i64 0), .c (.bool false), .c (.bool false), .c (.int .i64 (-1)), .c (.string ⟨#[]⟩), .c (.int .i64 0), .c (.bool false)]
def kAns2 (n : Nat) : CR := (.tup [.slc n 7, .c (.slice none 0 0), .c (.int .i64 0)], n + 1, [.new n 5 none [.c (.int .u8 72), .c (.int .u8 199), .c (.int .u8 192), .c (.int .u8 255), .c (.int .u8 255), .c (.int .u8 255), .c (.int .u8 255)]])
def kArgs3 : List AV := [.c (.int .i64 3), .c (.int .i64 8), .c (.int .i64 0), .c (.int .i64 1), .c (.int .i64 4), .c (.int .i64 0), .c (.int .i64 0), .c (.int .i64 0), .c (.bool false), .c (.bool false), .c (.int .i64 0), .c (.string ⟨#[]⟩), .c (.int .i64 0), .c (.int .i64 2), .c (.int .i64 0), .c (.int .i64 0), .c (.int .i64 0), .c (.int .i64 0), .c (.bool false), .c (.bool false), .c (.int .i64 8), .c (.string ⟨#[]⟩), .c (.int .i64 0), .c (.bool false)]
def kAns3 (n : Nat) : CR := (.tup [.slc n 4, .c (.slice none 0 0), .c (.int .i64 0)], n + 1, [.new n 5 none [.c (.int .u8 72), .c (.int .u8 131), .c (.int .u8 196), .c (.int .u8 8)]])
def kArgs4 : List AV := [.c (.int .i64 1), .c (.int .i64 8), .c (.int .i64 0), .c (.int .i64 1), .c (.int .i64 0), .c (.int .i64 0), .c (.int .i64 0), .c (.int .i64 0), .c (.bool false), .c (.bool false), .c (.int .i64 0), .c (.string ⟨#[]⟩), .c (.int .i64 0), .c (.int .i64 3), .c (.int .i64 0), .c (.int .i64 4), .c (.int .i64 (-1)), .c (.int .i64 0), .c (.bool false), .c (.bool false), .c (.int .i64 0), .c (.string ⟨#[]⟩), .c (.int .i64 0), .c (.bool false)]
def kAns4 (n : Nat) : CR := (.tup [.slc n 4, .c (.slice none 0 0), .c (.int .i64 0)], n + 1, [.new n 5 none [.c (.int .u8 72), .c (.int .u8 139), .c (.int .u8 4), .c (.int .u8 36)]])
def kArgs5 : List AV := [.c (.int .i64 1), .c (.int .i64 8), .c (.int .i64 0), .c (.int .i64 1), .c (.int .i64 0), .c (.int .i64 0), .c (.int .i64 0), .c (.int .i64 0), .c (.bool false), .c (.bool false), .c (.int .i64 0), .c (.string ⟨#[]⟩), .c (.int .i64 0), .c (.int .i64 3), .c (.int .i64 0), .c (.int .i64 5), .c (.int .i64 (-1)), .c (.int .i64 0), .c (.bool false), .c (.bool false), .c (.int .i64 0), .c (.string ⟨#[]⟩), .c (.int .i64 0), .c (.bool false)]
def kAns5 (n : Nat) : CR := (.tup [.slc n 4, .c (.slice none 0 0), .c (.int .i64 0)], n + 1, [.new n 5 none [.c (.int .u8 72), .c (.int .u8 139), .c (.int .u8 69), .c (.int .u8 0)]])
def kArgs6 : List AV := [.c (.int .i64 1), .c (.int .i64 1), .c (.int .i64 0), .c (.int .i64 3), .c (.int .i64 0), .c (.int .i64 13), .c (.int .i64 12), .c (.int .i64 4), .c (.bool false), .c (.bool false), .c (.int .i64 0), .c (.string ⟨#[]⟩), .c (.int .i64 0), .c (.int .i64 1), .c (.int .i64 6), .c (.int .i64 0), .c (.int .i64 0), .c (.int .i64 0), .c (.bool false), .c (.bool false), .c (.int .i64 0), .c (.string ⟨#[]⟩), .c (.int .i64 0), .c (.bool false)]
def kAns6 (n : Nat) : CR := (.tup [.slc n 5, .c (.slice none 0 0), .c (.int .i64 0)], n + 1, [.new n 5 none [.c (.int .u8 67), .c (.int .u8 136), .c (.int .u8 116), .c (.int .u8 165), .c (.int .u8 0)]])
def kArgs7 : List AV := [.c (.int .i64 1), .c (.int .i64 8), .c (.int .i64 0), .c (.int .i64 1), .c (.int .i64 0), .c (.int .i64 0), .c (.int .i64 0), .c (.int .i64 0), .c (.bool false), .c (.bool false), .c (.int .i64 0), .c (.string ⟨#[]⟩), .c (.int .i64 0), .c (.int .i64 3), .c (.int .i64 0), .c (.int .i64 (-1)), .c (.int .i64 (-1)), .c (.int .i64 0), .c (.bool false), .c (.bool true), .c (.int .i64 0), .c (.string ⟨#[]⟩), .c (.int .i64 0), .c (.bool false)]
def kAns7 (n : Nat) : CR := (.tup [.slc n 9, .c (.slice none 0 0), .c (.int .i64 0)], n + 1, [.new n 5 none [.c (.int .u8 100), .c (.int .u8 72), .c (.int .u8 139), .c (.int .u8 4), .c (.int .u8 37), .c (.int .u8 0), .c (.int .u8 0), .c (.int .u8 0), .c (.int .u8 0)]])
def kArgs8 : List AV := [.c (.int .i64 2), .c (.int .i64 8), .c (.int .i64 0), .c (.int .i64 1), .c (.int .i64 7), .c (.int .i64 0), .c (.int .i64 0), .c (.int .i64 0), .c (.bool false), .c (.bool false), .c (.int .i64 0), .c (.string ⟨#[]⟩), .c (.int .i64 0), .c (.int .i64 3), .c (.int .i64 0), .c (.int .i64 (-1)), .c (.int .i64 (-1)), .c (.int .i64 0), .c (.bool true), .c (.bool false), .c (.int .i64 0), .c (.string ⟨#[102]⟩), .c (.int .i64 0), .c (.bool false)]
def kAns8 (n : Nat) : CR := (.tup [.slc n 7, .slc (n + 1) 1, .c (.int .i64 0)], n + 1 + 1, [.new n 5 none [.c (.int .u8 72), .c (.int .u8 141), .c (.int .u8 61), .c (.int .u8 0), .c (.int .u8 0), .c (.int .u8 0), .c (.int .u8 0)], .new (n + 1) 74 none [.c (.int .i64 3)]])
def kArgs9 : List AV := [.c (.int .i64 20), .c (.int .i64 8), .c (.int .i64 0), .c (.int .i64 0), .c (.int .i64 0), .c (.int .i64 0), .c (.int .i64 0), .c (.int .i64 0), .c (.bool false), .c (.bool false), .c (.int .i64 0), .c (.string ⟨#[]⟩), .c (.int .i64 0), .c (.int .i64 1), .c (.int .i64 12), .c (.int .i64 0), .c (.int .i64 0), .c (.int .i64 0), .c (.bool false), .c (.bool false), .c (.int .i64 0), .c (.string ⟨#[]⟩), .c (.int .i64 0), .c (.bool false)]
def kAns9 (n : Nat) : CR := (.tup [.slc n 2, .c (.slice none 0 0), .c (.int .i64 0)], n + 1, [.new n 5 none [.c (.int .u8 65), .c (.int .u8 84)]])
def kArgs10 : List AV := [.c (.int .i64 21), .c (.int .i64 8), .c (.int .i64 0), .c (.int .i64 1), .c (.int .i64 5), .c (.int .i64 0), .c (.int .i64 0), .c (.int .i64 0), .c (.bool false), .c (.bool false), .c (.int .i64 0), .c (.string ⟨#[]⟩), .c (.int .i64 0), .c (.int .i64 0), .c (.int .i64 0), .c (.int .i64 0), .c (.int .i64 0), .c (.int .i64 0), .c (.bool false), .c (.bool false), .c (.int .i64 0), .c (.string ⟨#[]⟩), .c (.int .i64 0), .c (.bool false)]
def kAns10 (n : Nat) : CR := (.tup [.slc n 1, .c (.slice none 0 0), .c (.int .i64 0)], n + 1, [.new n 5 none [.c (.int .u8 93)]])
def kArgs11 : List AV := [.c (.int .i64 17), .c (.int .i64 8), .c (.int .i64 0), .c (.int .i64 1), .c (.int .i64 2), .c (.int .i64 0), .c (.int .i64 0), .c (.int .i64 0), .c (.bool false), .c (.bool false), .c (.int .i64 0), .c (.string ⟨#[]⟩), .c (.int .i64 0), .c (.int .i64 1), .c (.int .i64 1), .c (.int .i64 0), .c (.int .i64 0), .c (.int .i64 0), .c (.bool false), .c (.bool false), .c (.int .i64 0), .c (.string ⟨#[]⟩), .c (.int .i64 0), .c (.bool false)]
def kAns11 (n : Nat) : CR := (.tup [.slc n 3, .c (.slice none 0 0), .c (.int .i64 0)], n + 1, [.new n 5 none [.c (.int .u8 72), .c (.int .u8 211), .c (.int .u8 226)]])
def kArgs12 : List AV := [.c (.int .i64 27), .c (.int .i64 1), .c (.int .i64 5), .c (.int .i64 1), .c (.int .i64 0), .c (.int .i64 0), .c (.int .i64 0), .c (.int .i64 0), .c (.bool false), .c (.bool false), .c (.int .i64 0), .c (.string ⟨#[]⟩), .c (.int .i64 0), .c (.int .i64 0), .c (.int .i64 0), .c (.int .i64 0), .c (.int .i64 0), .c (.int .i64 0), .c (.bool false), .c (.bool false), .c (.int .i64 0), .c (.string ⟨#[]⟩), .c (.int .i64 0), .c (.bool false)]
def kAns12 (n : Nat) : CR := (.tup [.slc n 3, .c (.slice none 0 0), .c (.int .i64 0)], n + 1, [.new n 5 none [.c (.int .u8 15), .c (.int .u8 149), .c (.int .u8 192)]])
def kArgs13 : List AV := [.c (.int .i64 29), .c (.int .i64 4), .c (.int .i64 0), .c (.int .i64 1), .c (.int .i64 0), .c (.int .i64 0), .c (.int .i64 0), .c (.int .i64 0), .c (.bool false), .c (.bool false), .c (.int .i64 0), .c (.string ⟨#[]⟩), .c (.int .i64 0), .c (.int .i64 1), .c (.int .i64 7), .c (.int .i64 0), .c (.int .i64 0), .c (.int .i64 0), .c (.bool false), .c (.bool false), .c (.int .i64 0), .c (.string ⟨#[]⟩), .c (.int .i64 0), .c (.bool false)]
def kAns13 (n : Nat) : CR := (.tup [.slc n 4, .c (.slice none 0 0), .c (.int .i64 0)], n + 1, [.new n 5 none [.c (.int .u8 64), .c (.int .u8 15), .c (.int .u8 182), .c (.int .u8 199)]])
def kArgs14 : List AV := [.c (.int .i64 35), .c (.int .i64 0), .c (.int .i64 0), .c (.int .i64 0), .c (.int .i64 0), .c (.int .i64 0), .c (.int .i64 0), .c (.int .i64 0), .c (.bool false), .c (.bool false), .c (.int .i64 0), .c (.string ⟨#[]⟩), .c (.int .i64 0), .c (.int .i64 0), .c (.int .i64 0), .c (.int .i64 0), .c (.int .i64 0), .c (.int .i64 0), .c (.bool false), .c (.bool false), .c (.int .i64 0), .c (.string ⟨#[]⟩), .c (.int .i64 0), .c (.bool false)]
def kAns14 (n : Nat) : CR := (.tup [.slc n 2, .c (.slice none 0 0), .c (.int .i64 0)], n + 1, [.new n 5 none [.c (.int .u8 15), .c (.int .u8 5)]])
def kArgs15 : List AV := [.c (.int .i64 32), .c (.int .i64 0), .c (.int .i64 0), .c (.int .i64 0), .c (.int .i64 0), .c (.int .i64 0), .c (.int .i64 0), .c (.int .i64 0), .c (.bool false), .c (.bool false), .c (.int .i64 0), .c (.string ⟨#[]⟩), .c (.int .i64 0), .c (.int .i64 0), .c (.int .i64 0), .c (.int .i64 0), .c (.int .i64 0), .c (.int .i64 0), .c (.bool false), .c (.bool false), .c (.int .i64 0), .c (.string ⟨#[]⟩), .c (.int .i64 0), .c (.bool false)]
def kAns15 (n : Nat) : CR := (.tup [.slc n 2, .c (.slice none 0 0), .c (.int .i64 0)], n + 1, [.new n 5 none [.c (.int .u8 72), .c (.int .u8 153)]])
def kArgs16 : List AV := [.c (.int .i64 24), .c (.int .i64 8), .c (.int .i64 5), .c (.int .i64 4), .c (.int .i64 0), .c (.int .i64 0), .c (.int .i64 0), .c (.int .i64 0), .c (.bool false), .c (.bool false), .c (.int .i64 5), .c (.string ⟨#[]⟩), .c (.int .i64 0), .c (.int .i64 0), .c (.int .i64 0), .c (.int .i64 0), .c (.int .i64 0), .c (.int .i64 0), .c (.bool false), .c (.bool false), .c (.int .i64 0), .c (.string ⟨#[]⟩), .c (.int .i64 0), .c (.bool true)]
def kAns16 (n : Nat) : CR := (.tup [.slc n 2, .c (.slice none 0 0), .c (.int .i64 0)], n + 1, [.new n 5 none [.c (.int .u8 117), .c (.int .u8 5)]])
theorem kTold0 (n : Nat) : told 7 [.agg kArgs0] n = some (kAns0 n) := by kernel_rfl
theorem kTold1 (n : Nat) : told 7 [.agg kArgs1] n = some (kAns1 n) := by kernel_rfl
theorem kTold2 (n : Nat) : told 7 [.agg kArgs2] n = some (kAns2 n) := by kernel_rfl
theorem kTold3 (n : Nat) : told 7 [.agg kArgs3] n = some (kAns3 n) := by kernel_rfl
theorem kTold4 (n : Nat) : told 7 [.agg kArgs4] n = some (kAns4 n) := by kernel_rfl
theorem kTold5 (n : Nat) : told 7 [.agg kArgs5] n = some (kAns5 n) := by kernel_rfl
theorem kTold6 (n : Nat) : told 7 [.agg kArgs6] n = some (kAns6 n) := by kernel_rfl
theorem kTold7 (n : Nat) : told 7 [.agg kArgs7] n = some (kAns7 n) := by kernel_rfl
theorem kTold8 (n : Nat) : told 7 [.agg kArgs8] n = some (kAns8 n) := by kernel_rfl
theorem kTold9 (n : Nat) : told 7 [.agg kArgs9] n = some (kAns9 n) := by kernel_rfl
theorem kTold10 (n : Nat) : told 7 [.agg kArgs10] n = some (kAns10 n) := by kernel_rfl
theorem kTold11 (n : Nat) : told 7 [.agg kArgs11] n = some (kAns11 n) := by kernel_rfl
theorem kTold12 (n : Nat) : told 7 [.agg kArgs12] n = some (kAns12 n) := by kernel_rfl
theorem kTold13 (n : Nat) : told 7 [.agg kArgs13] n = some (kAns13 n) := by kernel_rfl
theorem kTold14 (n : Nat) : told 7 [.agg kArgs14] n = some (kAns14 n) := by kernel_rfl
theorem kTold15 (n : Nat) : told 7 [.agg kArgs15] n = some (kAns15 n) := by kernel_rfl
theorem kTold16 (n : Nat) : told 7 [.agg kArgs16] n = some (kAns16 n) := by kernel_rfl

def isTrue : Option CR → Bool
  | some (.c (.bool b), _, _) => b
  | some (.s (.bool b), _, _) => b
  | _ => false

theorem live_true : isTrue (told 10 [] 0) = true := by kernel_rfl

end Sym
end Go.Proofs
