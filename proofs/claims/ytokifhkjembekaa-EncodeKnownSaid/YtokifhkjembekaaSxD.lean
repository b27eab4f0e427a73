/- The symbolic evaluator's soundness, first part: what abstract values and the log mean in a world; that steps compose. Conditions: none. -/
import Derived.Test.YtokifhkjembekaaSxC
namespace Go.Sx

theorem app_eq {α : Type} (xs ys : List α) : app xs ys = xs ++ ys := by
  induction xs with
  | nil => rfl
  | cons a xs ih => show a :: app xs ys = _; rw [ih]; rfl
theorem mapL_eq {α β : Type} (f : α → β) (xs : List α) : mapL f xs = xs.map f := by
  induction xs with
  | nil => rfl
  | cons a xs ih => show f a :: mapL f xs = _; rw [ih]; rfl
theorem allL_eq {α : Type} (f : α → Bool) (xs : List α) : allL f xs = xs.all f := by
  induction xs with
  | nil => rfl
  | cons a xs ih =>
    show (Bool.rec (motive := fun _ => Bool) false (allL f xs) (f a)) = _
    rw [ih, List.all_cons]; cases f a <;> rfl
theorem lenL_eq {α : Type} (xs : List α) : lenL xs = xs.length := by
  induction xs with
  | nil => rfl
  | cons a xs ih => show lenL xs + 1 = _; rw [ih]; rfl
theorem nthL_eq {α : Type} (xs : List α) : ∀ k, nthL xs k = xs[k]? := by
  induction xs with
  | nil => intro k; simp [nthL]
  | cons a xs ih =>
    intro k
    show (Bool.rec (motive := fun _ => Option α) (nthL xs (Nat.pred k)) (some a) (Nat.beq k 0)) = _
    cases k with
    | zero => rfl
    | succ k => rw [ih]; rfl
theorem obind_eq {α β : Type} (o : Option α) (f : α → Option β) : obind o f = o.bind f := by cases o <;> rfl
theorem cond_eq {α : Type} (b : Bool) (x y : α) : (Bool.rec (motive := fun _ => α) y x b) = bif b then x else y := by cases b <;> rfl

theorem T.bind_run {α β : Type} {t : T α} {k : α → T β} {y : β} (h : (t.bind k).run = some y) : ∃ x, t.run = some x ∧ (k x).run = some y := by
  induction t with
  | ret a => exact ⟨a, rfl, h⟩
  | br b t e iht ihe =>
    have h' : (bif b then (t.bind k).run else (e.bind k).run) = some y := h
    cases b with
    | true => exact iht h'
    | false => exact ihe h'
  | bad y => cases h

theorem T.opt_run {α : Type} {o : Option α} {y : α} (h : (T.opt o).run = some y) : o = some y := by
  cases o with
  | none => cases h
  | some a => exact h

theorem T.at_run {α : Type} {t : T α} {s : String} {y : α} (h : (t.at s).run = some y) : t.run = some y := by
  cases t with
  | ret a => exact h
  | br b t e => exact h
  | bad z => cases h

theorem T.br_run {α : Type} {b : Bool} {t e : T α} {y : α} (h : (T.br b t e).run = some y) : (b = true ∧ t.run = some y) ∨ (b = false ∧ e.run = some y) := by
  cases b with
  | true => exact .inl ⟨rfl, h⟩
  | false => exact .inr ⟨rfl, h⟩

/-- Where block i lies, and its capacity where it is a row. -/
abbrev Phi := Nat → Nat × Nat

mutual
def conc (φ : Phi) : AV → Value
  | .c v => v
  | .s v => v
  | .ptr i off => .pointer (some ⟨(φ i).1, off, none⟩)
  | .slc i len => .slice (some ⟨(φ i).1, 0, none⟩) len (φ i).2
  | .mp i => .map (some (φ i).1)
  | .fn f a b => .func f (concs φ a).toArray (concs φ b).toArray
  | .agg cs => .agg (concs φ cs).toArray
  | .tup vs => .tuple (concs φ vs).toArray
def concs (φ : Phi) : List AV → List Value
  | [] => []
  | v :: r => conc φ v :: concs φ r
end

mutual
/-- Every block that it speaks of is one of V. -/
def AV.ok (V : Nat → Prop) : AV → Prop
  | .c _ => True
  | .s _ => True
  | .ptr i _ => V i
  | .slc i _ => V i
  | .mp i => V i
  | .fn _ a b => AV.oks V a ∧ AV.oks V b
  | .agg cs => AV.oks V cs
  | .tup vs => AV.oks V vs
def AV.oks (V : Nat → Prop) : List AV → Prop
  | [] => True
  | v :: r => v.ok V ∧ AV.oks V r
end

theorem concs_eq (φ : Phi) (l : List AV) : concs φ l = l.map (conc φ) := by
  induction l with
  | nil => rfl
  | cons v r ih => simp [concs, ih]

theorem oks_iff {V : Nat → Prop} {l : List AV} : AV.oks V l ↔ ∀ v ∈ l, v.ok V := by
  induction l with
  | nil => simp [AV.oks]
  | cons v r ih => simp [AV.oks, ih]

mutual
theorem conc_agree {φ φ' : Phi} {V : Nat → Prop} (h : ∀ i, V i → φ' i = φ i) : ∀ v : AV, v.ok V → conc φ' v = conc φ v
  | .c _, _ => rfl
  | .s _, _ => rfl
  | .ptr i _, hv => by simp only [conc]; rw [h i hv]
  | .slc i _, hv => by simp only [conc]; rw [h i hv]
  | .mp i, hv => by simp only [conc]; rw [h i hv]
  | .fn _ a b, hv => by simp only [conc]; rw [concs_agree h a hv.1, concs_agree h b hv.2]
  | .agg cs, hv => by simp only [conc]; rw [concs_agree h cs hv]
  | .tup vs, hv => by simp only [conc]; rw [concs_agree h vs hv]
theorem concs_agree {φ φ' : Phi} {V : Nat → Prop} (h : ∀ i, V i → φ' i = φ i) : ∀ l : List AV, AV.oks V l → concs φ' l = concs φ l
  | [], _ => rfl
  | v :: r, hv => by simp only [concs]; rw [conc_agree h v hv.1, concs_agree h r hv.2]
end

mutual
theorem ok_mono {V V' : Nat → Prop} (h : ∀ i, V i → V' i) : ∀ v : AV, v.ok V → v.ok V'
  | .c _, _ => trivial
  | .s _, _ => trivial
  | .ptr i _, hv => h i hv
  | .slc i _, hv => h i hv
  | .mp i, hv => h i hv
  | .fn _ a b, hv => ⟨oks_mono h a hv.1, oks_mono h b hv.2⟩
  | .agg cs, hv => oks_mono h cs hv
  | .tup vs, hv => oks_mono h vs hv
theorem oks_mono {V V' : Nat → Prop} (h : ∀ i, V i → V' i) : ∀ l : List AV, AV.oks V l → AV.oks V' l
  | [], _ => trivial
  | v :: r, hv => ⟨ok_mono h v hv.1, oks_mono h r hv.2⟩
end

mutual
theorem val_conc {φ : Phi} : ∀ (v : AV) (x : Value), v.val = some x → conc φ v = x
  | .c _, x, h => by simpa [AV.val, conc] using h
  | .s _, x, h => by simpa [AV.val, conc] using h
  | .ptr i _, x, h => by simp [AV.val] at h
  | .slc i _, x, h => by simp [AV.val] at h
  | .mp i, x, h => by simp [AV.val] at h
  | .fn f a b, x, h => by
    simp only [AV.val, Option.bind_eq_some_iff] at h
    obtain ⟨p, hp, q, hq, hx⟩ := h
    simp only [conc, vals_concs a p hp, vals_concs b q hq]
    exact Option.some.inj hx
  | .agg cs, x, h => by
    simp only [AV.val, Option.bind_eq_some_iff] at h
    obtain ⟨p, hp, hx⟩ := h
    simp only [conc, vals_concs cs p hp]
    exact Option.some.inj hx
  | .tup cs, x, h => by
    simp only [AV.val, Option.bind_eq_some_iff] at h
    obtain ⟨p, hp, hx⟩ := h
    simp only [conc, vals_concs cs p hp]
    exact Option.some.inj hx
theorem vals_concs {φ : Phi} : ∀ (l : List AV) (xs : List Value), AV.vals l = some xs → concs φ l = xs
  | [], xs, h => by simpa [AV.vals, concs] using h
  | v :: r, xs, h => by
    simp only [AV.vals, Option.bind_eq_some_iff] at h
    obtain ⟨p, hp, q, hq, hx⟩ := h
    simp only [concs, val_conc v p hp, vals_concs r q hq]
    exact Option.some.inj hx
end

theorem conc_of (φ : Phi) (sym : Bool) (v : Value) : conc φ (AV.of sym v) = v := by
  have hm : ∀ l : List Value, concs φ (l.map fun v => bif sym then AV.s v else AV.c v) = l := by
    intro l
    rw [concs_eq, List.map_map]
    conv => rhs; rw [← List.map_id l]
    apply List.map_congr_left
    intro x _
    cases sym <;> rfl
  cases v <;> simp only [AV.of] <;> first
    | (simp only [conc, hm]; done)
    | (cases sym <;> rfl)

theorem ok_of (V : Nat → Prop) (sym : Bool) (v : Value) : (AV.of sym v).ok V := by
  have hm : ∀ l : List Value, AV.oks V (l.map fun v => bif sym then AV.s v else AV.c v) := by
    intro l
    rw [oks_iff]
    intro x hx
    obtain ⟨y, _, rfl⟩ := List.mem_map.1 hx
    cases sym <;> trivial
  cases v <;> simp only [AV.of] <;> first
    | exact hm _
    | (cases sym <;> trivial)

theorem conc_cells (φ : Phi) (v : AV) : (conc φ v).cells = (concs φ v.cells).toArray := by
  have hm : ∀ (s : Bool) (x : Value), x.cells = (concs φ (vCells s x)).toArray := by
    intro s x
    have hl : ∀ l : List Value, concs φ (mapL (fun v => Bool.rec (motive := fun _ => AV) (.c v) (.s v) s) l) = l := by
      intro l
      rw [mapL_eq, concs_eq, List.map_map]
      conv => rhs; rw [← List.map_id l]
      apply List.map_congr_left
      intro y _
      cases s <;> rfl
    cases x <;> first
      | (cases s <;> rfl)
      | (simp only [Value.cells, vCells, hl])
  cases v with
  | c x => exact hm false x
  | s x => exact hm true x
  | agg cs => rfl
  | _ => rfl

theorem ok_cells (V : Nat → Prop) (v : AV) (h : v.ok V) : AV.oks V v.cells := by
  have hm : ∀ (s : Bool) (x : Value), AV.oks V (vCells s x) := by
    intro s x
    cases x <;> simp only [vCells] <;> first
      | (cases s <;> exact ⟨trivial, trivial⟩)
      | (rw [mapL_eq, oks_iff]; intro y hy; obtain ⟨z, _, rfl⟩ := List.mem_map.1 hy; cases s <;> trivial)
  cases v with
  | c x => exact hm false x
  | s x => exact hm true x
  | agg cs => exact h
  | _ => exact ⟨h, trivial⟩

/-! ### The log -/

theorem beq_if {α : Type} (j i : Nat) (x y : α) : (Bool.rec (motive := fun _ => α) y x (Nat.beq j i)) = if j = i then x else y := by
  by_cases h : j = i
  · subst h; simp
  · have hb : Nat.beq j i = false := by
      cases hc : Nat.beq j i with
      | false => rfl
      | true => exact absurd (Nat.eq_of_beq_eq_true hc) h
    rw [hb, if_neg h]

theorem cellOf_nil (i off : Nat) : cellOf [] i off = none := rfl
theorem cellOf_wr (j o : Nat) (v : AV) (L : Log) (i off : Nat) : cellOf (.wr j o v :: L) i off = if j = i then (if o = off then some v else cellOf L i off) else cellOf L i off := by
  show (Bool.rec (motive := fun _ => Option AV) (cellOf L i off) (Bool.rec (motive := fun _ => Option AV) (cellOf L i off) (some v) (Nat.beq o off)) (Nat.beq j i)) = _
  rw [beq_if, beq_if]
theorem cellOf_new (j ty : Nat) (k : Option Nat) (cells : List AV) (L : Log) (i off : Nat) : cellOf (.new j ty k cells :: L) i off = if j = i then cells[off]? else cellOf L i off := by
  show (Bool.rec (motive := fun _ => Option AV) (cellOf L i off) (nthL cells off) (Nat.beq j i)) = _
  rw [beq_if, nthL_eq]
theorem cellOf_kill (j : Nat) (L : Log) (i off : Nat) : cellOf (.kill j :: L) i off = if j = i then none else cellOf L i off := by
  show (Bool.rec (motive := fun _ => Option AV) (cellOf L i off) none (Nat.beq j i)) = _
  rw [beq_if]
theorem cellOf_hide (j o : Nat) (L : Log) (i off : Nat) : cellOf (.hide j o :: L) i off = if j = i then (if o = off then none else cellOf L i off) else cellOf L i off := by
  show (Bool.rec (motive := fun _ => Option AV) (cellOf L i off) (Bool.rec (motive := fun _ => Option AV) (cellOf L i off) none (Nat.beq o off)) (Nat.beq j i)) = _
  rw [beq_if, beq_if]
theorem cellOf_map (j : Nat) (es : List (Value × AV)) (L : Log) (i off : Nat) : cellOf (.map j es :: L) i off = cellOf L i off := rfl
theorem metaOf_nil (i : Nat) : metaOf [] i = none := rfl
theorem metaOf_wr (j o : Nat) (v : AV) (L : Log) (i : Nat) : metaOf (.wr j o v :: L) i = metaOf L i := rfl
theorem metaOf_new (j ty : Nat) (k : Option Nat) (cells : List AV) (L : Log) (i : Nat) : metaOf (.new j ty k cells :: L) i = if j = i then some ⟨ty, k, cells.length⟩ else metaOf L i := by
  show (Bool.rec (motive := fun _ => Option Meta) (metaOf L i) (some ⟨ty, k, lenL cells⟩) (Nat.beq j i)) = _
  rw [beq_if, lenL_eq]
theorem metaOf_kill (j : Nat) (L : Log) (i : Nat) : metaOf (.kill j :: L) i = if j = i then none else metaOf L i := by
  show (Bool.rec (motive := fun _ => Option Meta) (metaOf L i) none (Nat.beq j i)) = _
  rw [beq_if]
theorem metaOf_hide (j o : Nat) (L : Log) (i : Nat) : metaOf (.hide j o :: L) i = metaOf L i := rfl
theorem metaOf_map (j : Nat) (es : List (Value × AV)) (L : Log) (i : Nat) : metaOf (.map j es :: L) i = metaOf L i := rfl
theorem mapOf_nil (i : Nat) : mapOf [] i = none := rfl
theorem mapOf_wr (j o : Nat) (v : AV) (L : Log) (i : Nat) : mapOf (.wr j o v :: L) i = mapOf L i := rfl
theorem mapOf_new (j ty : Nat) (k : Option Nat) (cells : List AV) (L : Log) (i : Nat) : mapOf (.new j ty k cells :: L) i = mapOf L i := rfl
theorem mapOf_kill (j : Nat) (L : Log) (i : Nat) : mapOf (.kill j :: L) i = if j = i then none else mapOf L i := by
  show (Bool.rec (motive := fun _ => Option (List (Value × AV))) (mapOf L i) none (Nat.beq j i)) = _
  rw [beq_if]
theorem mapOf_hide (j o : Nat) (L : Log) (i : Nat) : mapOf (.hide j o :: L) i = mapOf L i := rfl
theorem mapOf_map (j : Nat) (es : List (Value × AV)) (L : Log) (i : Nat) : mapOf (.map j es :: L) i = if j = i then some es else mapOf L i := by
  show (Bool.rec (motive := fun _ => Option (List (Value × AV))) (mapOf L i) (some es) (Nat.beq j i)) = _
  rw [beq_if]

theorem cellsOf_zero (L : Log) (i off : Nat) : cellsOf L i off 0 = some [] := rfl
theorem cellsOf_succ (L : Log) (i off n : Nat) : cellsOf L i off (n + 1) = (cellOf L i off).bind fun v => (cellsOf L i (off + 1) n).bind fun r => some (v :: r) := by
  show obind (cellOf L i off) (fun v => obind (cellsOf L i (off + 1) n) fun r => some (v :: r)) = _
  rw [obind_eq]; congr 1; funext v; rw [obind_eq]

theorem cellsOf_spec {L : Log} {i : Nat} : ∀ {n off : Nat} {vs : List AV}, cellsOf L i off n = some vs → vs.length = n ∧ ∀ j v, vs[j]? = some v → cellOf L i (off + j) = some v
  | 0, off, vs, h => by
    rw [cellsOf_zero] at h; cases h
    exact ⟨rfl, fun j v h => by simp at h⟩
  | n + 1, off, vs, h => by
    rw [cellsOf_succ] at h
    simp only [Option.bind_eq_some_iff] at h
    obtain ⟨v, hv, r, hr, hx⟩ := h
    cases hx
    obtain ⟨hl, hc⟩ := cellsOf_spec hr
    refine ⟨by simp [hl], fun j u hu => ?_⟩
    cases j with
    | zero => simp at hu; subst hu; simpa using hv
    | succ j => have := hc j u (by simpa using hu); rwa [show off + 1 + j = off + (j + 1) by omega] at this

theorem writes_cons (i off : Nat) (v : AV) (r : List AV) : writes i off (v :: r) = .wr i off v :: writes i (off + 1) r := rfl
theorem writes_nil (i off : Nat) : writes i off [] = [] := rfl

theorem metaOf_writes (i off : Nat) (vs : List AV) (L : Log) (j : Nat) : metaOf (writes i off vs ++ L) j = metaOf L j := by
  induction vs generalizing off with
  | nil => rfl
  | cons v r ih => rw [writes_cons, List.cons_append, metaOf_wr, ih]
theorem mapOf_writes (i off : Nat) (vs : List AV) (L : Log) (j : Nat) : mapOf (writes i off vs ++ L) j = mapOf L j := by
  induction vs generalizing off with
  | nil => rfl
  | cons v r ih => rw [writes_cons, List.cons_append, mapOf_wr, ih]
theorem cellOf_writes (i : Nat) (vs : List AV) (L : Log) (j o : Nat) : ∀ off, cellOf (writes i off vs ++ L) j o = if i = j ∧ off ≤ o ∧ o < off + vs.length then vs[o - off]? else cellOf L j o := by
  induction vs with
  | nil => intro off; rw [writes_nil, List.nil_append, if_neg (by simp)]
  | cons v r ih =>
    intro off
    rw [writes_cons, List.cons_append, cellOf_wr, ih]
    by_cases hij : i = j
    · subst hij
      by_cases ho : off = o
      · subst ho; simp
      · rw [if_pos rfl, if_neg ho]
        by_cases hlt : off + 1 ≤ o ∧ o < off + 1 + r.length
        · rw [if_pos ⟨rfl, hlt⟩, if_pos ⟨rfl, by omega, by simp; omega⟩]
          rw [show o - off = (o - (off + 1)) + 1 by omega]
          simp
        · rw [if_neg (by intro h; exact hlt h.2), if_neg (by intro h; apply hlt; simp at h; omega)]
    · simp [hij]



def Tr (L : Log) (i : Nat) : Prop := (metaOf L i).isSome ∨ (mapOf L i).isSome

structure Sat (φ : Phi) (V : Nat → Prop) (L : Log) (w : World) : Prop where
  cell : ∀ i off v, cellOf L i off = some v → w.cell? ⟨(φ i).1, off, none⟩ = some (conc φ v)
  ok : ∀ i off v, cellOf L i off = some v → v.ok V ∧ (metaOf L i).isSome
  blk : ∀ i m, metaOf L i = some m → V i ∧ ∃ cur, w.heap[(φ i).1]? = some (.cells cur m.ty (0, 0)) ∧ ∀ es, m.k = some es → cur.size = (φ i).2 * es ∧ (φ i).2 ≤ maxLen
  mp : ∀ i es, mapOf L i = some es → V i ∧ (∀ p ∈ es, p.2.ok V) ∧ ∃ (ents : Array MapEntry) (clock : Nat), w.heap[(φ i).1]? = some (.map ents clock) ∧
    ents.toList.map (fun e => (e.key, e.val)) = es.map fun p => (p.1, conc φ p.2)
  inj : ∀ i j, Tr L i → Tr L j → (φ i).1 = (φ j).1 → i = j

theorem Sat.valid {φ : Phi} {V : Nat → Prop} {L : Log} {w : World} (h : Sat φ V L w) {i : Nat} (ht : Tr L i) : V i := by
  rcases ht with ht | ht
  · obtain ⟨m, hm⟩ := Option.isSome_iff_exists.1 ht; exact (h.blk i m hm).1
  · obtain ⟨m, hm⟩ := Option.isSome_iff_exists.1 ht; exact (h.mp i m hm).1

/-- One block, a map's or a row's, lies below the heap's end. -/
theorem Sat.lt {φ : Phi} {V : Nat → Prop} {L : Log} {w : World} (h : Sat φ V L w) {i : Nat} (ht : Tr L i) : (φ i).1 < w.heap.size := by
  rcases ht with ht | ht
  · obtain ⟨m, hm⟩ := Option.isSome_iff_exists.1 ht
    obtain ⟨_, cur, hc, _⟩ := h.blk i m hm
    exact (Array.getElem?_eq_some_iff.1 hc).1
  · obtain ⟨m, hm⟩ := Option.isSome_iff_exists.1 ht
    obtain ⟨_, _, ents, clock, hc, _⟩ := h.mp i m hm
    exact (Array.getElem?_eq_some_iff.1 hc).1

/-- From one log and world to another. -/
structure Step (φ : Phi) (V : Nat → Prop) (L : Log) (w : World) (φ' : Phi) (V' : Nat → Prop) (L' : Log) (w' : World) : Prop where
  ag : ∀ i, V i → φ' i = φ i
  vs : ∀ i, V i → V' i
  sat : Sat φ' V' L' w'
  os : w'.os = w.os
  tape : w'.tape = w.tape
  output : w'.output = w.output
  size : w.heap.size ≤ w'.heap.size
  blk : ∀ b, b < w.heap.size → (∀ i, Tr L i → (φ i).1 ≠ b) → w'.heap[b]? = w.heap[b]?
  cel : ∀ i m, metaOf L i = some m → m.k = none → ∀ off, cellOf L i off = none → w'.cell? ⟨(φ i).1, off, none⟩ = w.cell? ⟨(φ i).1, off, none⟩
  new : ∀ i, Tr L' i → (V i ∧ Tr L i) ∨ (¬ V i ∧ (w.heap.size ≤ (φ' i).1 ∨ ∃ j, Tr L j ∧ (φ' i).1 = (φ j).1))
  keep : ∀ i m, metaOf L i = some m → m.k = none → metaOf L' i = some m ∧ ∀ off, cellOf L i off = none → cellOf L' i off = none

theorem Step.refl {φ : Phi} {V : Nat → Prop} {L : Log} {w : World} (h : Sat φ V L w) : Step φ V L w φ V L w :=
  ⟨fun _ _ => rfl, fun _ h => h, h, rfl, rfl, rfl, Nat.le_refl _, fun _ _ _ => rfl, fun _ _ _ _ _ _ => rfl, fun _ hi => .inl ⟨h.valid hi, hi⟩, fun _ _ hm _ => ⟨hm, fun _ h => h⟩⟩

theorem Step.trans {φ φ₁ φ₂ : Phi} {V V₁ V₂ : Nat → Prop} {L L₁ L₂ : Log} {w w₁ w₂ : World} (hs : Sat φ V L w) (h : Step φ V L w φ₁ V₁ L₁ w₁) (k : Step φ₁ V₁ L₁ w₁ φ₂ V₂ L₂ w₂) :
    Step φ V L w φ₂ V₂ L₂ w₂ where
  ag := fun i hi => (k.ag i (h.vs i hi)).trans (h.ag i hi)
  vs := fun i hi => k.vs i (h.vs i hi)
  sat := k.sat
  os := k.os.trans h.os
  tape := k.tape.trans h.tape
  output := k.output.trans h.output
  size := Nat.le_trans h.size k.size
  blk := fun b hb hn => by
    refine (k.blk b (Nat.lt_of_lt_of_le hb h.size) fun i hi => ?_).trans (h.blk b hb hn)
    rcases h.new i hi with ⟨hv, ht⟩ | ⟨_, hge | ⟨j, hj, he⟩⟩
    · rw [h.ag i hv]; exact hn i ht
    · omega
    · rw [he]; exact hn j hj
  cel := fun i m hm hk off hc => by
    obtain ⟨hm1, hc1⟩ := h.keep i m hm hk
    have hv := (hs.blk i m hm).1
    have := k.cel i m hm1 hk off (hc1 off hc)
    rw [h.ag i hv] at this
    exact this.trans (h.cel i m hm hk off hc)
  new := fun i hi => by
    have lift : ∀ j, Tr L₁ j → w.heap.size ≤ (φ₁ j).1 ∨ ∃ j', Tr L j' ∧ (φ₁ j).1 = (φ j').1 := by
      intro j hj
      rcases h.new j hj with ⟨hv, ht⟩ | ⟨_, hge | ⟨j', hj', he⟩⟩
      · exact .inr ⟨j, ht, by rw [h.ag j hv]⟩
      · exact .inl hge
      · exact .inr ⟨j', hj', he⟩
    rcases k.new i hi with ⟨hv, ht⟩ | ⟨hv, hge | ⟨j, hj, he⟩⟩
    · rcases h.new i ht with r | ⟨hnv, r⟩
      · exact .inl r
      · refine .inr ⟨hnv, ?_⟩
        rw [k.ag i hv]; exact r
    · exact .inr ⟨fun hV => hv (h.vs i hV), .inl (Nat.le_trans h.size hge)⟩
    · refine .inr ⟨fun hV => hv (h.vs i hV), ?_⟩
      rw [he]; exact lift j hj
  keep := fun i m hm hk => by
    obtain ⟨hm1, hc1⟩ := h.keep i m hm hk
    obtain ⟨hm2, hc2⟩ := k.keep i m hm1 hk
    exact ⟨hm2, fun off hc => hc2 off (hc1 off hc)⟩

/-- The blocks from n on to n' are new. -/
def Add (V : Nat → Prop) (n n' : Nat) : Nat → Prop := fun i => V i ∨ (n ≤ i ∧ i < n')

/-- None of V stands between. -/
def Clear (V : Nat → Prop) (n n' : Nat) : Prop := ∀ i, V i → i < n ∨ n' ≤ i

theorem Clear.left {V : Nat → Prop} {n n₁ n' : Nat} (h : Clear V n n') (h1 : n₁ ≤ n') : Clear V n n₁ := fun i hi => (h i hi).imp id (Nat.le_trans h1)
theorem Clear.right {V : Nat → Prop} {n n₁ n' : Nat} (h : Clear V n n') (h1 : n ≤ n₁) : Clear (Add V n n₁) n₁ n' := fun i hi => by
  rcases hi with hi | hi
  · exact (h i hi).imp (fun h => Nat.lt_of_lt_of_le h h1) id
  · exact .inl hi.2
theorem Add.same (V : Nat → Prop) (n : Nat) : Add V n n = V := by
  funext i; simp only [Add, eq_iff_iff]; constructor
  · rintro (h | h); exact h; omega
  · exact .inl
theorem Add.join (V : Nat → Prop) {n n₁ n' : Nat} (h : n ≤ n₁) (h' : n₁ ≤ n') : Add (Add V n n₁) n₁ n' = Add V n n' := by
  funext i; simp only [Add, eq_iff_iff]; constructor
  · rintro ((h | h) | h); exact .inl h; exact .inr ⟨h.1, by omega⟩; exact .inr ⟨by omega, h.2⟩
  · rintro (h | h); exact .inl (.inl h)
    by_cases hi : i < n₁
    · exact .inl (.inr ⟨h.1, hi⟩)
    · exact .inr ⟨by omega, h.2⟩

end Go.Sx
