/- The symbolic evaluator's soundness, eighth part: append, len, maps. Conditions: none. -/
import Derived.Test.YtokifhkjembekaaSxJ
import Derived.Laws.AppendOwnNone
namespace Go.Sx
section
variable {P : Program} {φ φ' : Phi} {V V' : Nat → Prop} {nt : Nat} {env : Env} {a : Act} {L : Log} {w : World}

theorem rowLike_spec (hs : Sat φ V L w) {i e es : Nat} (h : appendA.rowLike L i e es = true) : ∃ m cur, metaOf L i = some m ∧ m.ty = e ∧ m.k = some es ∧ w.heap[(φ i).1]? = some (.cells cur e (0, 0)) ∧ cur.size = (φ i).2 * es ∧ (φ i).2 ≤ maxLen := by
  unfold appendA.rowLike at h
  split at h
  · rename_i ty k ln hm
    simp only [Bool.and_eq_true] at h
    have h1 := Nat.eq_of_beq_eq_true h.1
    have h2 := Nat.eq_of_beq_eq_true h.2
    subst h1; subst h2
    obtain ⟨_, cur, hcur, hes⟩ := hs.blk i _ hm
    obtain ⟨g1, g2⟩ := hes _ rfl
    exact ⟨_, cur, hm, rfl, rfl, hcur, g1, g2⟩
  · cases h

theorem row_cap (hs : Sat φ V L w) {i es l : Nat} {cs : List AV} (hc : cellsOf L i 0 (l * es) = some cs) {cur : Array Value} {ty : TypeId} (hcur : w.heap[(φ i).1]? = some (.cells cur ty (0, 0))) (hsz : cur.size = (φ i).2 * es) (he : 1 ≤ es) : l ≤ (φ i).2 := by
  obtain ⟨hl, hcc⟩ := cellsOf_spec hc
  rcases Nat.eq_zero_or_pos l with h0 | h0
  · omega
  · have hpos : 0 < l * es := Nat.mul_pos h0 he
    have hv : cs[l * es - 1]? = some cs[l * es - 1] := List.getElem?_eq_getElem (by omega)
    have hcell := hs.cell i _ _ (hcc _ _ hv)
    rw [Nat.zero_add, cell_of_row w (φ i).1 _ cur _ _ hcur] at hcell
    have hlt := (Array.getElem?_eq_some_iff.1 hcell).1
    have : l * es ≤ (φ i).2 * es := by omega
    exact Nat.le_of_mul_le_mul_right this he

theorem ones (φ : Phi) {cs : List AV} (h : cs.all AV.one = true) : ∀ u ∈ concs φ cs, u.oneCell' = true := by
  intro u hu
  rw [concs_eq] at hu
  obtain ⟨z, hz, rfl⟩ := List.mem_map.1 hu
  exact one_conc φ (List.all_eq_true.1 h z hz)

theorem append_sound {sT xT ty : TypeId} {s x : AV} {n : Nat} {r : Out} (h : appendA P sT xT s x n L = some r) : ∃ v, r.1 = some v ∧ n ≤ r.2.1 ∧ ∀ φ V w, Clear V n r.2.1 → s.ok V → Sat φ V L w →
    ∃ φ' w', (Builtin.append_ #[sT, xT] ty #[conc φ s, conc φ x]).run P w = .ok (conc φ' v) w' ∧ Step φ V L w φ' (Add V n r.2.1) (r.2.2 ++ L) w' ∧ v.ok (Add V n r.2.1) := by
  unfold appendA at h
  cases hst : (!Nat.beq sT xT) with
  | true => rw [hst] at h; cases h
  | false =>
  rw [hst] at h
  simp only [cond_false] at h
  have hst' : sT = xT := Nat.eq_of_beq_eq_true (by simpa using hst)
  subst hst'
  split at h
  · rename_i e hu
    replace h := Option.bind_eq_some_iff.1 h
    obtain ⟨⟨es, by', z⟩, hi3, h⟩ := h
    obtain ⟨i0, hi, hiz, his, hiby⟩ := info3_spec hi3
    subst his; subst hiby
    simp only at h
    cases hc : (!(Nat.beq z.cells.size i0.size && Nat.ble 1 i0.size)) with
    | true => rw [hc] at h; cases h
    | false =>
    rw [hc] at h
    simp only [cond_false] at h
    simp only [Bool.not_eq_false', Bool.and_eq_true] at hc
    have hz1 := Nat.eq_of_beq_eq_true hc.1
    have hes1 := Nat.le_of_ble_eq_true hc.2
    split at h
    · cases h
      refine ⟨_, rfl, Nat.le_refl _, fun φ V w hcl _ hs => ⟨φ, w, ?_, by rw [Add.same]; exact Step.refl hs, trivial⟩⟩
      exact run_append_owned_none (P := P) w 0 sT ty e i0 i0.size hu hi _ _ _ (World.ownsRow_nil w 0 e i0.size)
    · rename_i j m
      cases hm0 : Nat.beq m 0 with
      | true =>
        rw [hm0] at h
        cases h
        have hm := Nat.eq_of_beq_eq_true hm0
        subst hm
        refine ⟨_, rfl, Nat.le_refl _, fun φ V w hcl _ hs => ⟨φ, w, ?_, by rw [Add.same]; exact Step.refl hs, trivial⟩⟩
        simp [conc, Builtin.append_, run_underlying hu, sizeOf, typeInfo, hi, Builtin.lenOf, Builtin.firstCells, loadCells, loadCellsFrom]
      | false =>
        rw [hm0] at h
        simp only [cond_false] at h
        replace h := Option.bind_eq_some_iff.1 h
        obtain ⟨news, hnews, h⟩ := h
        rw [allL_eq] at h
        cases hb : ((Nat.ble (m * i0.bytes) 1000000000000 && Nat.ble m 1000000000000) && news.all AV.one && appendA.rowLike L j e i0.size) with
        | false => rw [hb] at h; cases h
        | true =>
          rw [hb] at h
          cases h
          simp only [Bool.and_eq_true] at hb
          obtain ⟨⟨⟨hb1, hb2⟩, hb3⟩, hb4⟩ := hb
          have hb1 := Nat.le_of_ble_eq_true hb1
          have hb2 := Nat.le_of_ble_eq_true hb2
          have hmpos : 0 < m := by rcases Nat.eq_zero_or_pos m with rfl | h; cases hm0; exact h
          refine ⟨_, rfl, Nat.le_succ _, fun φ V w hcl _ hs => ?_⟩
          obtain ⟨hcell, hok, hlen⟩ := cells_at hs hnews
          have hl : (concs φ news).length = m * i0.size := by rw [concs_eq, List.length_map]; exact hlen
          have hr := run_append_nil (P := P) w sT ty e i0 z hu hi hiz ⟨(φ j).1, 0, none⟩ m (φ j).2 (concs φ news) hl hcell hmpos (by omega) (by omega)
          have hge := grownCap_ge w m 0 e
          have hle := grownCap_le_maxLen w m 0 e (by simp only [maxLen]; omega)
          have hstep := Step.alloc (w₁ := w.drew) hs hcl e (some i0.size) news hok ((concs φ news).toArray ++ Builtin.zeroCells z.cells (grownCap w m 0 e - m)) (fun k v hv => by
              have hk : k < (concs φ news).length := by rw [concs_eq, List.length_map]; exact (List.getElem?_eq_some_iff.1 hv).1
              rw [Array.getElem?_append_left (by simpa using hk)]
              simp [concs_eq, hv]) (grownCap w m 0 e) (fun es' he' => by
              cases he'
              refine ⟨?_, hle⟩
              rw [Array.size_append, size_zeroCells, hz1]
              simp only [List.size_toArray, hl]
              rw [← Nat.add_mul]; congr 1; omega) rfl rfl rfl rfl
          refine ⟨_, _, ?_, hstep, .inr ⟨Nat.le_refl _, Nat.lt_succ_self _⟩⟩
          simp only [conc, up_same]
          exact hr
    · rename_i i l
      cases hcap : (bif appendA.rowLike L i e i0.size then cellsOf L i 0 (l * i0.size) else none) with
      | none => rw [hcap] at h; cases h
      | some olds =>
        rw [hcap] at h
        cases h
        cases hrl : appendA.rowLike L i e i0.size with
        | false => rw [hrl] at hcap; cases hcap
        | true =>
          rw [hrl] at hcap
          refine ⟨_, rfl, Nat.le_refl _, fun φ V w hcl hso hs => ⟨φ, w, ?_, by rw [Add.same]; exact Step.refl hs, by rw [Add.same]; exact hso⟩⟩
          obtain ⟨m, cur, hm, hmt, hmk, hcur, hsz, hmx⟩ := rowLike_spec hs hrl
          have hlc := row_cap hs hcap hcur hsz hes1
          obtain ⟨hcell, _, hlen⟩ := cells_at hs hcap
          refine run_append_owned_none (P := P) w 0 sT ty e i0 i0.size hu hi _ l (cur.toList.take (l * i0.size)) ⟨?_, .inr ⟨(φ i).1, (φ i).2, cur, rfl, Nat.zero_le _, hcur, hlc, hmx, hsz, rfl⟩⟩
          have : l * i0.size ≤ (φ i).2 * i0.size := Nat.mul_le_mul_right _ hlc
          rw [List.length_take, Array.length_toList]; omega
    · rename_i i l j m
      replace h := Option.bind_eq_some_iff.1 h
      obtain ⟨olds, holds, h⟩ := h
      replace h := Option.bind_eq_some_iff.1 h
      obtain ⟨news, hnews, h⟩ := h
      rw [allL_eq, app_eq] at h
      cases hb : (Nat.ble ((l + m) * i0.bytes) 1000000000000 && (Nat.ble (l + m) 1000000000000 && news.all AV.one && (appendA.rowLike L i e i0.size && appendA.rowLike L j e i0.size))) with
      | false => rw [hb] at h; cases h
      | true =>
        rw [hb] at h
        cases h
        simp only [Bool.and_eq_true] at hb
        obtain ⟨hb1, ⟨hb2, hb3⟩, hb4, hb5⟩ := hb
        have hb1 := Nat.le_of_ble_eq_true hb1
        have hb2 := Nat.le_of_ble_eq_true hb2
        refine ⟨_, rfl, Nat.le_succ _, fun φ V w hcl _ hs => ?_⟩
        obtain ⟨hoc, hook, holen⟩ := cells_at hs holds
        obtain ⟨hnc, hnok, hnlen⟩ := cells_at hs hnews
        obtain ⟨mi, cur, hm, hmt, hmk, hcur, hsz, hmx⟩ := rowLike_spec hs hb4
        have hlc := row_cap hs holds hcur hsz hes1
        have hol : (concs φ olds).length = l * i0.size := by rw [concs_eq, List.length_map]; exact holen
        have hnl : (concs φ news).length = m * i0.size := by rw [concs_eq, List.length_map]; exact hnlen
        have hokall : AV.oks V (olds ++ news) := by
          rw [oks_iff] at hook hnok ⊢
          intro v hv
          rcases List.mem_append.1 hv with h | h
          · exact hook v h
          · exact hnok v h
        have hcc : concs φ (olds ++ news) = concs φ olds ++ concs φ news := by simp [concs_eq]
        by_cases hroom : l + m ≤ (φ i).2
        · have hfit : l * i0.size + (concs φ news).length ≤ cur.size := by rw [hnl, hsz, ← Nat.add_mul]; exact Nat.mul_le_mul_right _ hroom
          have hr := run_append_room (P := P) w sT ty e i0 hu hi (φ i).1 l (φ i).2 cur hcur ⟨(φ j).1, 0, none⟩ m (φ j).2 (concs φ news) hnl hnc (ones φ hb3) hroom hfit
          have htake : cur.toList.take (l * i0.size) = concs φ olds := by
            apply List.ext_getElem?
            intro q
            rw [List.getElem?_take]
            by_cases hq : q < l * i0.size
            · rw [if_pos hq]
              have hv : (concs φ olds)[q]? = some (concs φ olds)[q] := List.getElem?_eq_getElem (by omega)
              have := hoc q _ hv
              rw [Addr.add_lit, Nat.zero_add, cell_of_row w (φ i).1 _ cur _ _ hcur] at this
              rw [hv, ← this]; simp
            · rw [if_neg hq, List.getElem?_eq_none (by omega)]
          have hstep := Step.regrow (w' := w.setRow (φ i).1 (cur.toList.take (l * i0.size) ++ concs φ news ++ cur.toList.drop (l * i0.size + (concs φ news).length)).toArray) hs hcl i mi i0.size hm hmk (olds ++ news) hokall (cur.toList.take (l * i0.size) ++ concs φ news ++ cur.toList.drop (l * i0.size + (concs φ news).length)).toArray
            (fun k v hv => by
              have hk : k < (olds ++ news).length := (List.getElem?_eq_some_iff.1 hv).1
              have hk' : k < (cur.toList.take (l * i0.size) ++ concs φ news).length := by rw [htake, ← hcc, concs_eq, List.length_map]; exact hk
              rw [List.getElem?_toArray, List.getElem?_append_left hk', htake, ← hcc, concs_eq, List.getElem?_map, hv]; rfl)
            (by
              simp only [List.size_toArray, List.length_append, List.length_take, List.length_drop, Array.length_toList]
              omega) hmx rfl rfl rfl (by simp) (fun b hb => setRow_other w _ _ _ hb) (by rw [hmt]; exact setRow_heap w _ cur _ e _ hcur)
          rw [hmt] at hstep
          refine ⟨_, _, ?_, hstep, .inr ⟨Nat.le_refl _, Nat.lt_succ_self _⟩⟩
          simp only [conc, up_same]
          exact hr
        · have hr := run_append_grow (P := P) w sT ty e i0 z hu hi hiz ⟨(φ i).1, 0, none⟩ l (φ i).2 (concs φ olds) hol hoc ⟨(φ j).1, 0, none⟩ m (φ j).2 (concs φ news) hnl hnc (by omega) (by omega) (growslice_fits (by omega) (by omega))
          have hge := grownCap_ge w (l + m) (φ i).2 e
          have hle := grownCap_le_maxLen w (l + m) (φ i).2 e (by simp only [maxLen]; omega)
          have hk := Step.kill hs i (fun m' hm' => by rw [hm] at hm'; cases hm'; rw [hmk]; simp)
          have hstep := Step.alloc (w₁ := w.drew) hk.sat hcl e (some i0.size) (olds ++ news) hokall ((concs φ olds).toArray ++ (concs φ news).toArray ++ Builtin.zeroCells z.cells (grownCap w (l + m) (φ i).2 e - (l + m))) (fun k v hv => by
              have hk : k < (olds ++ news).length := (List.getElem?_eq_some_iff.1 hv).1
              have hk' : k < ((concs φ olds).toArray ++ (concs φ news).toArray).size := by
                rw [Array.size_append]; simp only [List.size_toArray, ← List.length_append, ← hcc, concs_eq, List.length_map]; exact hk
              rw [Array.getElem?_append_left hk', List.append_toArray, ← hcc, List.getElem?_toArray, concs_eq, List.getElem?_map, hv]; rfl) (grownCap w (l + m) (φ i).2 e) (fun es' he' => by
              cases he'
              refine ⟨?_, hle⟩
              rw [Array.size_append, Array.size_append, size_zeroCells, hz1]
              simp only [List.size_toArray, hol, hnl]
              rw [← Nat.add_mul, ← Nat.add_mul]; congr 1; omega) rfl rfl rfl rfl
          refine ⟨_, _, ?_, Step.trans hs hk hstep, .inr ⟨Nat.le_refl _, Nat.lt_succ_self _⟩⟩
          simp only [conc, up_same]
          exact hr
    · cases h
  · cases h

theorem Tr.map {j : Nat} {es : List (Value × AV)} {L : Log} {i : Nat} : Tr (.map j es :: L) i ↔ i = j ∨ Tr L i := by
  unfold Tr
  rw [metaOf_map, mapOf_map]
  by_cases h : j = i
  · subst h; simp
  · rw [if_neg h]; constructor
    · exact .inr
    · rintro (rfl | h'); exact absurd rfl h; exact h'

theorem Step.newMap {φ : Phi} {V : Nat → Prop} {L : Log} {w : World} {n : Nat} (h : Sat φ V L w) (hc : Clear V n (n + 1)) :
    Step φ V L w (up φ n (w.heap.size, 0)) (Add V n (n + 1)) (.map n [] :: L) (w.alloc (.map #[] 0)) := by
  have hun := h.untr hc (Nat.lt_succ_self n)
  have hne : ∀ {i}, V i → i ≠ n := fun hi => hc.ne (Nat.lt_succ_self n) hi
  have hag : ∀ i, V i → up φ n (w.heap.size, 0) i = φ i := fun i hi => up_ne (hne hi)
  have hold : ∀ b, b < w.heap.size → (w.alloc (.map #[] 0)).heap[b]? = w.heap[b]? := fun b hb => by
    show (w.heap.push _)[b]? = _
    rw [Array.getElem?_push, if_neg (by omega)]
  have hnew : (w.alloc (.map #[] 0)).heap[w.heap.size]? = some (.map #[] 0) := by
    show (w.heap.push _)[w.heap.size]? = _
    rw [Array.getElem?_push, if_pos rfl]
  have hcell : ∀ i off, Tr L i → (w.alloc (.map #[] 0)).cell? ⟨(φ i).1, off, none⟩ = w.cell? ⟨(φ i).1, off, none⟩ := fun i off ht => World.cell?_of_block (hold _ (h.lt ht))
  refine ⟨hag, fun i hi => .inl hi, ⟨?_, ?_, ?_, ?_, ?_⟩, rfl, rfl, rfl, by rw [World.size_alloc]; omega, fun b hb _ => hold b hb, ?_, ?_, ?_⟩
  · intro i off v hv
    rw [cellOf_map] at hv
    obtain ⟨hvok, hm⟩ := h.ok i off v hv
    have ht : Tr L i := .inl hm
    rw [hag i (h.valid ht), conc_agree hag v hvok, hcell i off ht]
    exact h.cell i off v hv
  · intro i off v hv
    rw [cellOf_map] at hv
    obtain ⟨hvok, hm⟩ := h.ok i off v hv
    exact ⟨ok_mono (fun _ h => .inl h) v hvok, by rw [metaOf_map]; exact hm⟩
  · intro i m hm
    rw [metaOf_map] at hm
    obtain ⟨hv, cur, hcur, hes⟩ := h.blk i m hm
    rw [hag i hv]
    exact ⟨.inl hv, cur, by rw [hold _ (Array.getElem?_eq_some_iff.1 hcur).1]; exact hcur, hes⟩
  · intro i es hm
    rw [mapOf_map] at hm
    split at hm
    · rename_i e; subst e; cases hm
      exact ⟨.inr ⟨Nat.le_refl _, Nat.lt_succ_self _⟩, fun p hp => (by cases hp), #[], 0, by rw [up_same]; exact hnew, rfl⟩
    · obtain ⟨hv, hoks, ents, clock, hh, he⟩ := h.mp i es hm
      refine ⟨.inl hv, fun p hp => ok_mono (fun _ h => .inl h) _ (hoks p hp), ents, clock, by rw [hag i hv, hold _ (Array.getElem?_eq_some_iff.1 hh).1]; exact hh, ?_⟩
      rw [he]
      apply List.map_congr_left
      intro p hp
      rw [conc_agree hag _ (hoks p hp)]
  · intro a b ha hb he
    rw [Tr.map] at ha hb
    rcases ha with rfl | ha <;> rcases hb with rfl | hb
    · rfl
    · rw [up_same, hag b (h.valid hb)] at he
      have := h.lt hb; simp only at he; omega
    · rw [up_same, hag a (h.valid ha)] at he
      have := h.lt ha; simp only at he; omega
    · rw [hag a (h.valid ha), hag b (h.valid hb)] at he
      exact h.inj a b ha hb he
  · intro i m hm _ off _
    exact hcell i off (.inl (by rw [hm]; rfl))
  · intro i hi
    rw [Tr.map] at hi
    rcases hi with rfl | hi
    · exact .inr ⟨fun hV => hne hV rfl, .inl (by rw [up_same]; exact Nat.le_refl _)⟩
    · exact .inl ⟨h.valid hi, hi⟩
  · intro i m hm _
    exact ⟨hm, fun off hc => hc⟩

theorem Step.setMap {φ : Phi} {V : Nat → Prop} {L : Log} {w : World} (h : Sat φ V L w) (i : Nat) (es es' : List (Value × AV)) (hm : mapOf L i = some es) (hok : ∀ p ∈ es', p.2.ok V)
    (ents : Array MapEntry) (clock : Nat) (he : ents.toList.map (fun e => (e.key, e.val)) = es'.map fun p => (p.1, conc φ p.2)) :
    Step φ V L w φ V (.map i es' :: L) { w with heap := w.heap.setIfInBounds (φ i).1 (.map ents clock) } := by
  have hti : Tr L i := .inr (by rw [hm]; rfl)
  have hlt := h.lt hti
  have hoth : ∀ b, b ≠ (φ i).1 → (w.heap.setIfInBounds (φ i).1 (.map ents clock))[b]? = w.heap[b]? := fun b hb => by
    rw [Array.getElem?_setIfInBounds_ne (Ne.symm hb)]
  have hneb : ∀ j, Tr L j → j ≠ i → (φ j).1 ≠ (φ i).1 := fun j hj hji he => hji (h.inj j i hj hti he)
  have hmeta : ∀ j, (metaOf L j).isSome → j ≠ i := by
    rintro j hj rfl
    obtain ⟨m, hm'⟩ := Option.isSome_iff_exists.1 hj
    obtain ⟨_, cur, hcur, _⟩ := h.blk j m hm'
    obtain ⟨_, _, ents', clock', hh, _⟩ := h.mp j es hm
    rw [hcur] at hh; cases hh
  have hcelo : ∀ j o, (metaOf L j).isSome → World.cell? { w with heap := w.heap.setIfInBounds (φ i).1 (.map ents clock) } ⟨(φ j).1, o, none⟩ = w.cell? ⟨(φ j).1, o, none⟩ := fun j o hj =>
    World.cell?_of_block (hoth _ (hneb j (.inl hj) (hmeta j hj)))
  refine ⟨fun _ _ => rfl, fun _ h => h, ⟨?_, ?_, ?_, ?_, ?_⟩, rfl, rfl, rfl, by simp, fun b _ hn => hoth b fun e => hn i hti e.symm, ?_, ?_, ?_⟩
  · intro j off v hv
    rw [cellOf_map] at hv
    rw [hcelo j off (h.ok j off v hv).2]
    exact h.cell j off v hv
  · intro j off v hv
    rw [cellOf_map] at hv
    rw [metaOf_map]
    exact h.ok j off v hv
  · intro j m hm'
    rw [metaOf_map] at hm'
    obtain ⟨hv, cur, hcur, hes⟩ := h.blk j m hm'
    have hj : (metaOf L j).isSome := by rw [hm']; rfl
    exact ⟨hv, cur, by show (w.heap.setIfInBounds _ _)[_]? = _; rw [hoth _ (hneb j (.inl hj) (hmeta j hj))]; exact hcur, hes⟩
  · intro j es'' hm'
    rw [mapOf_map] at hm'
    split at hm'
    · rename_i e; subst e; cases hm'
      exact ⟨(h.mp i es hm).1, hok, ents, clock, by show (w.heap.setIfInBounds _ _)[_]? = _; simp [hlt], he⟩
    · rename_i e
      obtain ⟨hv, hoks, ents', clock', hh, he'⟩ := h.mp j es'' hm'
      exact ⟨hv, hoks, ents', clock', by show (w.heap.setIfInBounds _ _)[_]? = _; rw [hoth _ (hneb j (.inr (by rw [hm']; rfl)) (fun e' => e e'.symm))]; exact hh, he'⟩
  · intro a b ha hb heq
    rw [Tr.map] at ha hb
    refine h.inj a b ?_ ?_ heq
    · rcases ha with rfl | ha; exact hti; exact ha
    · rcases hb with rfl | hb; exact hti; exact hb
  · intro j m hm' _ off _
    exact hcelo j off (by rw [hm']; rfl)
  · intro j hj
    rw [Tr.map] at hj
    rcases hj with rfl | hj
    · exact .inl ⟨h.valid hti, hti⟩
    · exact .inl ⟨h.valid hj, hj⟩
  · intro j m hm' _
    exact ⟨hm', fun off hc => hc⟩

theorem sameNow_eqAt {d : TypeDesc} {k : AV} {x : Value} {tb : TB} (h : eqAt d k (.c x) = some tb) (φ : Phi) : Instr.sameNow d (conc φ k) x = some tb.val := by
  unfold eqAt at h
  split at h
  · replace h := oBool h
    obtain ⟨s, p, rfl, h⟩ := h
    replace h := oBool h
    obtain ⟨r, q, hq, h⟩ := h
    cases h
    have := congrArg (conc φ) hq
    rw [conc_tag] at this
    simp only [conc] at this
    subst this
    rw [conc_tag, TB.mk_val]; rfl
  · replace h := oInt h
    obtain ⟨s, k', p, rfl, h⟩ := h
    replace h := oInt h
    obtain ⟨r, j, q, hq, h⟩ := h
    cases hk : keq k' j with
    | false => rw [hk] at h; cases h
    | true =>
      rw [hk] at h
      cases h
      have := keq_eq hk; subst this
      have := congrArg (conc φ) hq
      rw [conc_tag] at this
      simp only [conc] at this
      subst this
      rw [conc_tag, TB.mk_val]; simp [Instr.sameNow]
  · replace h := oStr h
    obtain ⟨s, p, rfl, h⟩ := h
    replace h := oStr h
    obtain ⟨r, q, hq, h⟩ := h
    cases h
    have := congrArg (conc φ) hq
    rw [conc_tag] at this
    simp only [conc] at this
    subst this
    rw [conc_tag, TB.mk_val, ← ByteArray.toList_eq, ← ByteArray.toList_eq, ← beq_toListBytes]; rfl
  · cases h

theorem lookA_spec {d : TypeDesc} {k zero : AV} (φ : Phi) : ∀ {es : List (Value × AV)} {v : AV} {tb : TB} {ents : List MapEntry} (i : Nat), lookA d k zero es = some (v, tb) →
    ents.map (fun e => (e.key, e.val)) = es.map (fun p => (p.1, conc φ p.2)) →
    (tb.val = true → ∃ j, Instr.findNow d (conc φ k) ents i = some (some (j, conc φ v))) ∧ (tb.val = false → Instr.findNow d (conc φ k) ents i = some none ∧ conc φ v = conc φ zero) ∧
      (∀ V, zero.ok V → (∀ p ∈ es, p.2.ok V) → v.ok V)
  | [], v, tb, ents, i, h, he => by
    cases h
    have : ents = [] := by simpa using he
    subst this
    exact ⟨fun h => (by cases h), fun _ => ⟨rfl, rfl⟩, fun V h _ => h⟩
  | (x, u) :: r, v, tb, ents, i, h, he => by
    simp only [lookA, obind_eq, Option.bind_eq_some_iff] at h
    obtain ⟨e, hev, h⟩ := h
    cases ents with
    | nil => simp at he
    | cons en ents =>
      simp only [List.map_cons, List.cons.injEq, Prod.mk.injEq] at he
      obtain ⟨⟨hk, hval⟩, he⟩ := he
      have hsn := sameNow_eqAt hev φ
      rw [← hk] at hsn
      split at h
      · cases h
        simp only [TB.val] at hsn
        exact ⟨fun _ => ⟨i, by simp [Instr.findNow, hsn, hval]⟩, fun h => (by cases h), fun V _ hp => hp (x, u) (by simp)⟩
      · simp only [TB.val] at hsn
        obtain ⟨g1, g2, g3⟩ := lookA_spec φ (i + 1) h he
        refine ⟨fun ht => ?_, fun ht => ?_, fun V hz hp => g3 V hz (fun p hp' => hp p (by simp [hp']))⟩
        · obtain ⟨j, hj⟩ := g1 ht
          exact ⟨j, by simp [Instr.findNow, hsn, hj]⟩
        · obtain ⟨h1, h2⟩ := g2 ht
          exact ⟨by simp [Instr.findNow, hsn, h1], h2⟩
      · rename_i b
        simp only [TB.val] at hsn
        simp only [Option.bind_eq_some_iff] at h
        obtain ⟨⟨pv, pb⟩, hp, m, hm, h⟩ := h
        cases h
        obtain ⟨g1, g2, g3⟩ := lookA_spec φ (i + 1) hp he
        obtain ⟨m1, m2⟩ := mix_spec hm
        have hpb : (match pb with | .c y => y | .s y => y) = pb.val := by cases pb <;> rfl
        cases b with
        | true =>
          obtain ⟨c1, c2⟩ := m1 rfl
          refine ⟨fun _ => ⟨i, by simp [Instr.findNow, hsn, hval, c1]⟩, fun h => (by simp [TB.val] at h), fun V _ hp => c2 V (hp (x, u) (by simp))⟩
        | false =>
          obtain ⟨c1, c2⟩ := m2 rfl
          refine ⟨fun ht => ?_, fun ht => ?_, fun V hz hp => c2 V (g3 V hz (fun p hp' => hp p (by simp [hp'])))⟩
          · simp only [TB.val, Bool.false_or, hpb] at ht
            obtain ⟨j, hj⟩ := g1 ht
            exact ⟨j, by simp [Instr.findNow, hsn, hj, c1]⟩
          · simp only [TB.val, Bool.false_or, hpb] at ht
            obtain ⟨h1, h2⟩ := g2 ht
            exact ⟨by simp [Instr.findNow, hsn, h1], by rw [c1]; exact h2⟩

theorem lookA_desc {d : TypeDesc} {k zero : AV} {es : List (Value × AV)} {r : AV × TB} (h : lookA d k zero es = some r) (hne : es ≠ []) : d = .bool ∨ (∃ k, d = .int k) ∨ d = .string := by
  cases es with
  | nil => exact absurd rfl hne
  | cons p es =>
    obtain ⟨x, u⟩ := p
    simp only [lookA, obind_eq, Option.bind_eq_some_iff] at h
    obtain ⟨e, hev, _⟩ := h
    exact eqAt_desc hev

theorem run_checkKey {kt : TypeId} {d : TypeDesc} (hu : P.underlying kt = some d) (hd : d = .bool ∨ (∃ k, d = .int k) ∨ d = .string) (b : Bool) (v : Value) (w : World) : (Instr.checkKey b 10000 kt v).run P w = .ok () w := by
  show (Instr.checkKey b (9999 + 1) kt v).run P w = _
  rw [Instr.checkKey]
  simp only [Sem.run_bind, run_underlying hu, Result.andThen_ok]
  rcases hd with rfl | ⟨k, rfl⟩ | rfl <;> rfl

end
end Go.Sx
