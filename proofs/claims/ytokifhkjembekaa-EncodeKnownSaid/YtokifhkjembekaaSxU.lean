/- What a call without places among its arguments answers, told once for all contexts. Conditions: none. -/
import Derived.Test.YtokifhkjembekaaSxR
namespace Go.Sx

def scal : AV → Bool
  | .c _ => true
  | .s _ => true
  | _ => false

theorem scal_ok {v : AV} (h : scal v = true) (V : Nat → Prop) : v.ok V := by
  cases v <;> first | trivial | (cases h)
theorem scal_conc {v : AV} (h : scal v = true) (φ φ' : Phi) : conc φ v = conc φ' v := by
  cases v <;> first | rfl | (cases h)

noncomputable def sumVals (D : Log) : List AV → Nat → List Nat → Option (List AV × List (Nat × TypeId × List AV))
  | [], _, _ => some ([], [])
  | v :: r, y, seen =>
    match v with
    | .slc i len => bif memN i seen then none else obind (metaOf D i) fun m => obind (cellsOf D i 0 len) fun cs => bif cs.all scal then
        obind (sumVals D r (y + 1) (i :: seen)) fun p => some (.slc y len :: p.1, (i, m.ty, cs) :: p.2) else none
    | .c x => obind (sumVals D r y seen) fun p => some (.c x :: p.1, p.2)
    | .s x => obind (sumVals D r y seen) fun p => some (.s x :: p.1, p.2)
    | _ => none

def newsAt : Nat → List (Nat × TypeId × List AV) → Log
  | _, [] => []
  | y, b :: r => .new y b.2.1 none b.2.2 :: newsAt (y + 1) r

noncomputable def summ (n : Nat) (r : CR) : Option CR :=
  match r.1 with
  | .tup l => (sumVals r.2.2 l n []).map fun p => (.tup p.1, n + p.2.length, newsAt n p.2)
  | .c v => some (.c v, n, [])
  | .s v => some (.s v, n, [])
  | _ => none

theorem newsAt_other : ∀ (bs : List (Nat × TypeId × List AV)) (y : Nat) (L : Log) (x : Nat), (x < y ∨ y + bs.length ≤ x) → Same x (newsAt y bs ++ L) L
  | [], y, L, x, _ => Same.refl x L
  | b :: bs, y, L, x, h => by
    have hne : y ≠ x := by simp at h; omega
    have ih := newsAt_other bs (y + 1) L x (by simp at h; omega)
    exact ⟨by simp only [newsAt, List.cons_append, metaOf_new, if_neg hne]; exact ih.m, by simp only [newsAt, List.cons_append, mapOf_new]; exact ih.p, fun off => by simp only [newsAt, List.cons_append, cellOf_new, if_neg hne]; exact ih.c off⟩

theorem newsAt_own : ∀ (bs : List (Nat × TypeId × List AV)) (y : Nat) (L : Log) (j : Nat) (b : Nat × TypeId × List AV), bs[j]? = some b → metaOf (newsAt y bs ++ L) (y + j) = some ⟨b.2.1, none, b.2.2.length⟩ ∧
    (∀ off, cellOf (newsAt y bs ++ L) (y + j) off = b.2.2[off]?) ∧ mapOf (newsAt y bs ++ L) (y + j) = mapOf L (y + j)
  | [], _, _, j, b, h => by simp at h
  | b :: bs, y, L, 0, b', h => by
    cases h
    have o := newsAt_other bs (y + 1) L (y + 0) (by omega)
    exact ⟨by simp [newsAt, metaOf_new], fun off => by simp [newsAt, cellOf_new], by simp only [newsAt, List.cons_append, mapOf_new]; exact o.p⟩
  | b :: bs, y, L, j + 1, b', h => by
    have ih := newsAt_own bs (y + 1) L j b' h
    have hne : y ≠ y + 1 + j := by omega
    rw [show y + (j + 1) = y + 1 + j from by omega]
    exact ⟨by simp only [newsAt, List.cons_append, metaOf_new, if_neg hne]; exact ih.1, fun off => by simp only [newsAt, List.cons_append, cellOf_new, if_neg hne]; exact ih.2.1 off, by simp only [newsAt, List.cons_append, mapOf_new]; exact ih.2.2⟩

/-- The names that the answer's blocks get. -/
def ren (φ φ' : Phi) (n : Nat) (bs : List (Nat × TypeId × List AV)) : Phi := fun x => if n ≤ x then match bs[x - n]? with | some b => φ' b.1 | none => φ x else φ x

theorem ren_own {φ φ' : Phi} {n : Nat} {bs : List (Nat × TypeId × List AV)} {j : Nat} {b : Nat × TypeId × List AV} (h : bs[j]? = some b) : ren φ φ' n bs (n + j) = φ' b.1 := by
  unfold ren
  rw [if_pos (by omega), show n + j - n = j from by omega, h]
theorem ren_other {φ φ' : Phi} {n : Nat} {bs : List (Nat × TypeId × List AV)} {x : Nat} (h : x < n ∨ n + bs.length ≤ x) : ren φ φ' n bs x = φ x := by
  unfold ren
  by_cases hx : n ≤ x
  · rw [if_pos hx, List.getElem?_eq_none (by omega)]
  · rw [if_neg hx]

theorem memN_iff {x : Nat} {l : List Nat} : memN x l = true ↔ x ∈ l := by
  simp only [memN, List.any_eq_true]
  constructor
  · rintro ⟨y, hy, he⟩; exact (Nat.eq_of_beq_eq_true he) ▸ hy
  · intro h; exact ⟨x, h, by simp⟩

theorem sumVals_spec {D : Log} : ∀ {l : List AV} {y : Nat} {seen : List Nat} {p : List AV × List (Nat × TypeId × List AV)}, sumVals D l y seen = some p →
    (∀ b ∈ p.2, (∃ m, metaOf D b.1 = some m ∧ m.ty = b.2.1) ∧ (∀ off v, b.2.2[off]? = some v → cellOf D b.1 off = some v ∧ scal v = true)) ∧ (∀ b ∈ p.2, b.1 ∉ seen) ∧ (p.2.map (·.1)).Nodup ∧
    (∀ (φ φ' : Phi), (∀ j b, p.2[j]? = some b → φ (y + j) = φ' b.1) → concs φ p.1 = concs φ' l) ∧ AV.oks (fun x => y ≤ x ∧ x < y + p.2.length) p.1
  | [], y, seen, p, h => by
    cases h
    exact ⟨fun b hb => (by cases hb), fun b hb => (by cases hb), List.nodup_nil, fun _ _ _ => rfl, trivial⟩
  | v :: r, y, seen, p, h => by
    unfold sumVals at h
    cases v with
    | c x =>
      simp only [obind_eq, Option.bind_eq_some_iff] at h
      obtain ⟨q, hq, h⟩ := h
      cases h
      obtain ⟨h1, h2, h3, h4, h5⟩ := sumVals_spec hq
      exact ⟨h1, h2, h3, fun φ φ' hφ => by simp only [concs]; rw [h4 φ φ' hφ]; rfl, trivial, h5⟩
    | s x =>
      simp only [obind_eq, Option.bind_eq_some_iff] at h
      obtain ⟨q, hq, h⟩ := h
      cases h
      obtain ⟨h1, h2, h3, h4, h5⟩ := sumVals_spec hq
      exact ⟨h1, h2, h3, fun φ φ' hφ => by simp only [concs]; rw [h4 φ φ' hφ]; rfl, trivial, h5⟩
    | slc i len =>
      simp only [] at h
      cases hs : memN i seen with
      | true => rw [hs] at h; cases h
      | false =>
        rw [hs] at h
        simp only [cond_false, obind_eq, Option.bind_eq_some_iff] at h
        obtain ⟨m, hm, cs, hcs, h⟩ := h
        cases hsc : cs.all scal with
        | false => rw [hsc] at h; cases h
        | true =>
          rw [hsc] at h
          simp only [cond_true, Option.bind_eq_some_iff] at h
          obtain ⟨q, hq, h⟩ := h
          cases h
          obtain ⟨h1, h2, h3, h4, h5⟩ := sumVals_spec hq
          have hni : i ∉ seen := fun hmem => by rw [memN_iff.2 hmem] at hs; cases hs
          obtain ⟨c1, c2⟩ := cellsOf_spec hcs
          refine ⟨fun b hb => ?_, fun b hb => ?_, ?_, fun φ φ' hφ => ?_, ?_⟩
          · cases hb with
            | head => exact ⟨⟨m, hm, rfl⟩, fun off v hv => ⟨by have := c2 off v hv; rw [Nat.zero_add] at this; exact this, List.all_eq_true.1 hsc v (List.mem_of_getElem? hv)⟩⟩
            | tail _ hb => exact h1 b hb
          · cases hb with
            | head => exact hni
            | tail _ hb => exact fun hmem => h2 b hb (List.mem_cons_of_mem _ hmem)
          · simp only [List.map_cons, List.nodup_cons]
            refine ⟨fun hmem => ?_, h3⟩
            obtain ⟨b, hb, he⟩ := List.mem_map.1 hmem
            exact h2 b hb (by rw [he]; exact List.mem_cons_self)
          · have h0 := hφ 0 (i, m.ty, cs) rfl
            rw [Nat.add_zero] at h0
            simp only [concs, conc, h0]
            rw [h4 φ φ' fun j b hb => by rw [show y + 1 + j = y + (j + 1) from by omega]; exact hφ (j + 1) b hb]
          · refine ⟨⟨Nat.le_refl _, by simp⟩, ?_⟩
            rw [oks_iff] at h5 ⊢
            exact fun v hv => ok_mono (fun x hx => ⟨by omega, by have := hx.2; simp only [List.length_cons]; omega⟩) v (h5 v hv)
    | _ => cases h

section
variable {P : Program}

theorem tr_nil {i : Nat} (h : Tr [] i) : False := by rcases h with h | h <;> cases h

theorem sat_nil {φ : Phi} {V : Nat → Prop} (w : World) : Sat φ V [] w :=
  ⟨fun i off v hv => (by cases hv), fun i off v hv => (by cases hv), fun i m hm => (by cases hm), fun i m hm => (by cases hm), fun i j hi => (tr_nil hi).elim⟩

/-- The answer, told in a context of its own, holds in every one. -/
theorem CallW.told {f : FuncId} {args : List AV} {r r' : CR} {n : Nat} {L : Log} (h : CallW P f args 0 [] r) (ha : args.all scal = true ∨ (∀ V, AV.oks V args) ∧ ∀ φ φ', concs φ args = concs φ' args) (hs : summ n r = some r') :
    CallW P f args n L r' := by
  have hargs : (∀ V, AV.oks V args) ∧ ∀ φ φ', concs φ args = concs φ' args := by
    rcases ha with ha | ha
    · refine ⟨fun V => oks_iff.2 fun v hv => scal_ok (List.all_eq_true.1 ha v hv) V, fun φ φ' => ?_⟩
      rw [concs_eq, concs_eq]
      exact List.map_congr_left fun v hv => scal_conc (List.all_eq_true.1 ha v hv) φ φ'
    · exact ha
  obtain ⟨v1, n1, D⟩ := r
  obtain ⟨hle0, h⟩ := h
  -- the answer as values and new blocks
  have key : ∀ (v : AV) (bs : List (Nat × TypeId × List AV)), r' = (v, n + bs.length, newsAt n bs) →
      (∀ b ∈ bs, (∃ m, metaOf D b.1 = some m ∧ m.ty = b.2.1) ∧ (∀ off u, b.2.2[off]? = some u → cellOf D b.1 off = some u ∧ scal u = true)) → (bs.map (·.1)).Nodup →
      (∀ (φ φ' : Phi), (∀ j b, bs[j]? = some b → φ (n + j) = φ' b.1) → conc φ v = conc φ' v1) → v.ok (fun x => n ≤ x ∧ x < n + bs.length) → CallW P f args n L r' := by
    rintro v bs rfl hb hnd hconc hok
    refine ⟨Nat.le_add_right _ _, fun φ V w Post hc _ hsat hK => ?_⟩
    rw [hargs.2 φ (fun _ => (0, 0))]
    refine h (fun _ => (0, 0)) (fun _ => False) w Post (fun i hi => hi.elim) (hargs.1 _) (sat_nil w) fun φ' w' st _ => ?_
    rw [List.append_nil] at st
    let ψ := ren φ φ' n bs
    have hc : Clear V n (n + bs.length) := hc
    have hψo : ∀ (j : Nat) (b : Nat × TypeId × List AV), bs[j]? = some b → ψ (n + j) = φ' b.1 := fun j b hj => ren_own hj
    have hψV : ∀ x, V x → ψ x = φ x := fun x hx => ren_other (hc x hx)
    have hnew : ∀ y, Tr D y → w.heap.size ≤ (φ' y).1 := fun y hy => by
      rcases st.new y hy with ⟨hf, _⟩ | ⟨_, hge | ⟨j, hj, _⟩⟩
      · exact hf.elim
      · exact hge
      · exact (tr_nil hj).elim
    have hold : ∀ b, b < w.heap.size → w'.heap[b]? = w.heap[b]? := fun b hb => st.blk b hb fun i hi => (tr_nil hi).elim
    have hLt : ∀ x, Tr L x → (φ x).1 < w.heap.size := fun x hx => hsat.lt hx
    have hcell : ∀ x off, Tr L x → w'.cell? ⟨(φ x).1, off, none⟩ = w.cell? ⟨(φ x).1, off, none⟩ := fun x off hx => World.cell?_of_block (w := w) (hold _ (hLt x hx))
    -- each name: one of the answer's, or one of before
    have cls : ∀ x, (∃ (j : Nat) (b : Nat × TypeId × List AV), x = n + j ∧ bs[j]? = some b) ∨ Same x (newsAt n bs ++ L) L := fun x => by
      by_cases hx : x < n ∨ n + bs.length ≤ x
      · exact .inr (newsAt_other bs n L x hx)
      · refine .inl ⟨x - n, bs[x - n]'(by omega), by omega, List.getElem?_eq_getElem _⟩
    have htrD : ∀ (j : Nat) (b : Nat × TypeId × List AV), bs[j]? = some b → Tr D b.1 := fun j b hj => by
      obtain ⟨⟨m, hm, _⟩, _⟩ := hb b (List.mem_of_getElem? hj)
      exact .inl (by rw [hm]; rfl)
    have hmapL : ∀ j, j < bs.length → mapOf L (n + j) = none := fun j hj => by
      cases hm : mapOf L (n + j) with
      | none => rfl
      | some es =>
        have := hc _ (hsat.mp _ es hm).1
        omega
    have hown : ∀ (j : Nat) (b : Nat × TypeId × List AV), bs[j]? = some b → Add V n (n + bs.length) (n + j) := fun j b hj => .inr ⟨by omega, by have := (List.getElem?_eq_some_iff.1 hj).1; omega⟩
    have hfin : Step φ V L w ψ (Add V n (n + bs.length)) (newsAt n bs ++ L) w' := by
      refine ⟨hψV, fun i hi => .inl hi, ⟨?_, ?_, ?_, ?_, ?_⟩, st.os, st.tape, st.output, st.size, fun b hb _ => hold b hb, fun i m hm _ off _ => hcell i off (.inl (by rw [hm]; rfl)), ?_, ?_⟩
      · intro i off u hu
        rcases cls i with ⟨j, b, rfl, hj⟩ | s
        · rw [(newsAt_own bs n L j b hj).2.1] at hu
          obtain ⟨g1, g2⟩ := (hb b (List.mem_of_getElem? hj)).2 off u hu
          rw [hψo j b hj, st.sat.cell _ _ _ g1, scal_conc g2 ψ φ']
        · rw [s.c] at hu
          obtain ⟨hok', hm⟩ := hsat.ok i off u hu
          have ht : Tr L i := .inl hm
          rw [hψV i (hsat.valid ht), hcell i off ht, hsat.cell i off u hu, conc_agree hψV u hok']
      · intro i off u hu
        rcases cls i with ⟨j, b, rfl, hj⟩ | s
        · obtain ⟨o1, o2, _⟩ := newsAt_own bs n L j b hj
          rw [o2] at hu
          obtain ⟨_, g2⟩ := (hb b (List.mem_of_getElem? hj)).2 off u hu
          exact ⟨scal_ok g2 _, by rw [o1]; rfl⟩
        · rw [s.c] at hu
          obtain ⟨hok', hm⟩ := hsat.ok i off u hu
          exact ⟨ok_mono (fun _ h => .inl h) u hok', by rw [s.m]; exact hm⟩
      · intro i m hm
        rcases cls i with ⟨j, b, rfl, hj⟩ | s
        · rw [(newsAt_own bs n L j b hj).1] at hm
          cases hm
          obtain ⟨⟨m, g1, g2⟩, _⟩ := hb b (List.mem_of_getElem? hj)
          obtain ⟨_, cur, hcur, _⟩ := st.sat.blk b.1 m g1
          refine ⟨hown j b hj, cur, by rw [hψo j b hj, hcur, g2], fun es he => by cases he⟩
        · rw [s.m] at hm
          obtain ⟨hv, cur, hcur, hes⟩ := hsat.blk i m hm
          refine ⟨.inl hv, cur, ?_, ?_⟩
          · rw [hψV i hv, hold _ (hLt i (.inl (by rw [hm]; rfl))), hcur]
          · rw [hψV i hv]; exact hes
      · intro i es hm
        rcases cls i with ⟨j, b, rfl, hj⟩ | s
        · rw [(newsAt_own bs n L j b hj).2.2, hmapL j (List.getElem?_eq_some_iff.1 hj).1] at hm
          cases hm
        · rw [s.p] at hm
          obtain ⟨hv, hok', ents, clock, he, hmap⟩ := hsat.mp i es hm
          refine ⟨.inl hv, fun p hp => ok_mono (fun _ h => .inl h) _ (hok' p hp), ents, clock, ?_, ?_⟩
          · rw [hψV i hv, hold _ (hLt i (.inr (by rw [hm]; rfl))), he]
          · rw [hmap]
            exact List.map_congr_left fun p hp => by rw [conc_agree hψV _ (hok' p hp)]
      · intro x y hx hy he
        rcases cls x with ⟨j, b, rfl, hj⟩ | sx
        · rcases cls y with ⟨k, c, rfl, hk⟩ | sy
          · rw [hψo j b hj, hψo k c hk] at he
            have hbc := st.sat.inj _ _ (htrD j b hj) (htrD k c hk) he
            have hjl := (List.getElem?_eq_some_iff.1 hj).1
            have h1 : (bs.map (·.1))[j]? = some b.1 := by rw [List.getElem?_map, hj]; rfl
            have h2 : (bs.map (·.1))[k]? = some b.1 := by rw [List.getElem?_map, hk, hbc]; rfl
            have := (List.getElem?_inj (by simpa using hjl) hnd).1 (h1.trans h2.symm)
            rw [this]
          · have hyL := sy.tr.1 hy
            rw [hψo j b hj, hψV y (hsat.valid hyL)] at he
            have := hnew _ (htrD j b hj)
            have := hLt y hyL
            omega
        · have hxL := sx.tr.1 hx
          rcases cls y with ⟨k, c, rfl, hk⟩ | sy
          · rw [hψo k c hk, hψV x (hsat.valid hxL)] at he
            have := hnew _ (htrD k c hk)
            have := hLt x hxL
            omega
          · have hyL := sy.tr.1 hy
            rw [hψV x (hsat.valid hxL), hψV y (hsat.valid hyL)] at he
            exact hsat.inj x y hxL hyL he
      · intro i hi
        rcases cls i with ⟨j, b, rfl, hj⟩ | s
        · refine .inr ⟨fun hv => ?_, .inl ?_⟩
          · have := hc _ hv
            have := (List.getElem?_eq_some_iff.1 hj).1
            omega
          · rw [hψo j b hj]; exact hnew _ (htrD j b hj)
        · have hiL := s.tr.1 hi
          exact .inl ⟨hsat.valid hiL, hiL⟩
      · intro i m hm _
        have hv := (hsat.blk i m hm).1
        have s := newsAt_other bs n L i (hc i hv)
        exact ⟨by rw [s.m]; exact hm, fun off hcc => by rw [s.c]; exact hcc⟩
    have := hK ψ w' hfin (ok_mono (fun x hx => .inr hx) v hok)
    rw [hconc ψ φ' hψo] at this
    exact this
  unfold summ at hs
  simp only [] at hs
  split at hs
  · rename_i l
    obtain ⟨p, hp, rfl⟩ := Option.map_eq_some_iff.1 hs
    obtain ⟨h1, _, h3, h4, h5⟩ := sumVals_spec hp
    exact key _ p.2 rfl h1 h3 (fun φ φ' hφ => by simp only [conc]; rw [h4 φ φ' hφ]) h5
  · rename_i x
    cases hs
    exact key (.c x) [] rfl (fun b hb => by cases hb) List.nodup_nil (fun _ _ _ => rfl) trivial
  · rename_i x
    cases hs
    exact key (.s x) [] rfl (fun b hb => by cases hb) List.nodup_nil (fun _ _ _ => rfl) trivial
  · cases hs

end
end Go.Sx
