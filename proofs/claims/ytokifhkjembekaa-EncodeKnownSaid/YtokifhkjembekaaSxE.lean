/- The symbolic evaluator's soundness, second part: a new block, a store, a row that grows. Conditions: none. -/
import Derived.Test.YtokifhkjembekaaSxD
namespace Go.Sx

def up (φ : Phi) (n : Nat) (x : Nat × Nat) : Phi := fun i => if i = n then x else φ i
theorem up_same (φ : Phi) (n : Nat) (x : Nat × Nat) : up φ n x n = x := if_pos rfl
theorem up_ne {φ : Phi} {n i : Nat} {x : Nat × Nat} (h : i ≠ n) : up φ n x i = φ i := if_neg h

theorem Clear.ne {V : Nat → Prop} {n n' : Nat} (h : Clear V n n') (hlt : n < n') {i : Nat} (hi : V i) : i ≠ n := by
  rintro rfl
  rcases h i hi with h | h <;> omega

theorem Sat.untr {φ : Phi} {V : Nat → Prop} {L : Log} {w : World} (h : Sat φ V L w) {n n' : Nat} (hc : Clear V n n') (hlt : n < n') : ¬ Tr L n := fun ht => hc.ne hlt (h.valid ht) rfl

theorem Tr.new {j ty : Nat} {k : Option Nat} {cells : List AV} {L : Log} {i : Nat} : Tr (.new j ty k cells :: L) i ↔ i = j ∨ Tr L i := by
  unfold Tr
  rw [metaOf_new, mapOf_new]
  by_cases h : j = i
  · subst h; simp
  · rw [if_neg h]; constructor
    · exact .inr
    · rintro (rfl | h'); exact absurd rfl h; exact h'

/-- A block given up: nothing is known of it any more. -/
theorem Step.kill {φ : Phi} {V : Nat → Prop} {L : Log} {w : World} (h : Sat φ V L w) (i : Nat) (hr : ∀ m, metaOf L i = some m → m.k ≠ none) : Step φ V L w φ V (.kill i :: L) w where
  ag := fun _ _ => rfl
  vs := fun _ h => h
  sat := {
    cell := fun j off v hv => by rw [cellOf_kill] at hv; split at hv; cases hv; exact h.cell j off v hv
    ok := fun j off v hv => by
      rw [cellOf_kill] at hv; split at hv; cases hv
      rename_i hne
      rw [metaOf_kill, if_neg hne]; exact h.ok j off v hv
    blk := fun j m hm => by rw [metaOf_kill] at hm; split at hm; cases hm; exact h.blk j m hm
    mp := fun j m hm => by rw [mapOf_kill] at hm; split at hm; cases hm; exact h.mp j m hm
    inj := fun a b ha hb he => h.inj a b (by unfold Tr at *; rw [metaOf_kill, mapOf_kill] at ha; split at ha; simp at ha; exact ha) (by unfold Tr at *; rw [metaOf_kill, mapOf_kill] at hb; split at hb; simp at hb; exact hb) he }
  os := rfl
  tape := rfl
  output := rfl
  size := Nat.le_refl _
  blk := fun _ _ _ => rfl
  cel := fun _ _ _ _ _ _ => rfl
  new := fun j hj => by
    have ht : Tr L j := by unfold Tr at *; rw [metaOf_kill, mapOf_kill] at hj; split at hj; simp at hj; exact hj
    exact .inl ⟨h.valid ht, ht⟩
  keep := fun j m hm hk => by
    have hne : i ≠ j := by rintro rfl; exact hr m hm hk
    exact ⟨by rw [metaOf_kill, if_neg hne]; exact hm, fun off hc => by rw [cellOf_kill, if_neg hne]; exact hc⟩

/-- A new block of cells. -/
theorem Step.alloc {φ : Phi} {V : Nat → Prop} {L : Log} {w w₁ : World} {n : Nat} (h : Sat φ V L w) (hc : Clear V n (n + 1)) (ty : Nat) (k : Option Nat) (cells : List AV)
    (hok : AV.oks V cells) (cs : Array Value) (hpre : ∀ (j : Nat) (v : AV), cells[j]? = some v → cs[j]? = some (conc φ v)) (cap : Nat) (hk : ∀ es, k = some es → cs.size = cap * es ∧ cap ≤ maxLen)
    (h1 : w₁.heap = w.heap) (h2 : w₁.os = w.os) (h3 : w₁.tape = w.tape) (h4 : w₁.output = w.output) :
    Step φ V L w (up φ n (w.heap.size, cap)) (Add V n (n + 1)) (.new n ty k cells :: L) (w₁.alloc (.cells cs ty)) := by
  have hun := h.untr hc (Nat.lt_succ_self n)
  have hne : ∀ {i}, V i → i ≠ n := fun hi => hc.ne (Nat.lt_succ_self n) hi
  have hag : ∀ i, V i → up φ n (w.heap.size, cap) i = φ i := fun i hi => up_ne (hne hi)
  have hold : ∀ b, b < w.heap.size → (w₁.alloc (.cells cs ty)).heap[b]? = w.heap[b]? := fun b hb => by
    show (w₁.heap.push _)[b]? = _
    rw [h1, Array.getElem?_push, if_neg (by omega)]
  have hnew : (w₁.alloc (.cells cs ty)).heap[w.heap.size]? = some (.cells cs ty (0, 0)) := by
    show (w₁.heap.push _)[w.heap.size]? = _
    rw [h1, Array.getElem?_push, if_pos rfl]
  have hcell : ∀ i off, Tr L i → (w₁.alloc (.cells cs ty)).cell? ⟨(φ i).1, off, none⟩ = w.cell? ⟨(φ i).1, off, none⟩ := fun i off ht => World.cell?_of_block (hold _ (h.lt ht))
  refine ⟨hag, fun i hi => .inl hi, ?_, h2, h3, h4, by rw [World.size_alloc, h1]; omega, fun b hb _ => hold b hb, ?_, ?_, ?_⟩
  · refine ⟨?_, ?_, ?_, ?_, ?_⟩
    · intro i off v hv
      rw [cellOf_new] at hv
      split at hv
      · rename_i e; subst e
        rw [up_same]
        have hvok : v.ok V := oks_iff.1 hok v (List.mem_of_getElem? hv)
        rw [conc_agree hag v hvok]
        unfold World.cell?
        simp only [hnew]
        exact hpre off v hv
      · obtain ⟨hvok, hm⟩ := h.ok i off v hv
        have ht : Tr L i := .inl hm
        rw [hag i (h.valid ht), conc_agree hag v hvok, hcell i off ht]
        exact h.cell i off v hv
    · intro i off v hv
      rw [cellOf_new] at hv
      rw [metaOf_new]
      split at hv
      · rename_i e
        exact ⟨ok_mono (fun _ h => .inl h) v (oks_iff.1 hok v (List.mem_of_getElem? hv)), by rw [if_pos e]; rfl⟩
      · rename_i e
        obtain ⟨hvok, hm⟩ := h.ok i off v hv
        exact ⟨ok_mono (fun _ h => .inl h) v hvok, by rw [if_neg e]; exact hm⟩
    · intro i m hm
      rw [metaOf_new] at hm
      split at hm
      · rename_i e; subst e; cases hm
        refine ⟨.inr ⟨Nat.le_refl _, Nat.lt_succ_self _⟩, cs, by rw [up_same]; exact hnew, fun es he => ?_⟩
        rw [up_same]; exact hk es he
      · obtain ⟨hv, cur, hcur, hes⟩ := h.blk i m hm
        rw [hag i hv]
        exact ⟨.inl hv, cur, by rw [hold _ (Array.getElem?_eq_some_iff.1 hcur).1]; exact hcur, hes⟩
    · intro i es hm
      rw [mapOf_new] at hm
      obtain ⟨hv, hoks, ents, clock, hh, he⟩ := h.mp i es hm
      refine ⟨.inl hv, fun p hp => ok_mono (fun _ h => .inl h) _ (hoks p hp), ents, clock, by rw [hag i hv, hold _ (Array.getElem?_eq_some_iff.1 hh).1]; exact hh, ?_⟩
      rw [he]
      apply List.map_congr_left
      intro p hp
      rw [conc_agree hag _ (hoks p hp)]
    · intro a b ha hb he
      rw [Tr.new] at ha hb
      rcases ha with rfl | ha <;> rcases hb with rfl | hb
      · rfl
      · rw [up_same, hag b (h.valid hb)] at he
        have := h.lt hb; simp only at he; omega
      · rw [up_same, hag a (h.valid ha)] at he
        have := h.lt ha; simp only at he; omega
      · rw [hag a (h.valid ha), hag b (h.valid hb)] at he
        exact h.inj a b ha hb he
  · intro i m hm _ off _
    exact hcell i off (.inl (by rw [hm]; rfl))
  · intro i hi
    rw [Tr.new] at hi
    rcases hi with rfl | hi
    · exact .inr ⟨fun hV => hne hV rfl, .inl (by rw [up_same]; exact Nat.le_refl _)⟩
    · exact .inl ⟨h.valid hi, hi⟩
  · intro i m hm _
    have hi : n ≠ i := fun e => hun (.inl (by rw [e, hm]; rfl))
    exact ⟨by rw [metaOf_new, if_neg hi]; exact hm, fun off hc => by rw [cellOf_new, if_neg hi]; exact hc⟩

/-- Cells of one block written. -/
theorem Step.store {φ : Phi} {V : Nat → Prop} {L : Log} {w : World} (h : Sat φ V L w) (i off : Nat) (vs : List AV) (hok : AV.oks V vs) (hkn : ∀ j, j < vs.length → (cellOf L i (off + j)).isSome)
    {w' : World} (hos : w'.os = w.os) (htape : w'.tape = w.tape) (hout : w'.output = w.output) (hsize : w'.heap.size = w.heap.size)
    (hoth : ∀ b, b ≠ (φ i).1 → w'.heap[b]? = w.heap[b]?)
    (hsame : ∀ cur ty, w.heap[(φ i).1]? = some (.cells cur ty (0, 0)) → ∃ cur', w'.heap[(φ i).1]? = some (.cells cur' ty (0, 0)) ∧ cur'.size = cur.size)
    (hcel : ∀ o, w'.cell? ⟨(φ i).1, o, none⟩ = if off ≤ o ∧ o < off + vs.length then (concs φ vs)[o - off]? else w.cell? ⟨(φ i).1, o, none⟩) (hv : vs ≠ []) :
    Step φ V L w φ V (writes i off vs ++ L) w' := by
  have hm0 : (metaOf L i).isSome := by
    obtain ⟨u, hu⟩ := Option.isSome_iff_exists.1 (hkn 0 (List.length_pos_iff.2 hv))
    exact (h.ok i _ u hu).2
  have hti : Tr L i := .inl hm0
  have hneb : ∀ j, Tr L j → j ≠ i → (φ j).1 ≠ (φ i).1 := fun j hj hji he => hji (h.inj j i hj hti he)
  have hcelo : ∀ j o, Tr L j → j ≠ i → w'.cell? ⟨(φ j).1, o, none⟩ = w.cell? ⟨(φ j).1, o, none⟩ := fun j o hj hji => World.cell?_of_block (hoth _ (hneb j hj hji))
  have htr : ∀ j, Tr (writes i off vs ++ L) j ↔ Tr L j := fun j => by unfold Tr; rw [metaOf_writes, mapOf_writes]
  refine ⟨fun _ _ => rfl, fun _ h => h, ⟨?_, ?_, ?_, ?_, ?_⟩, hos, htape, hout, by omega, fun b _ hn => hoth b fun e => hn i hti e.symm, ?_, fun j hj => .inl ⟨h.valid ((htr j).1 hj), (htr j).1 hj⟩, ?_⟩
  · intro j o v hv
    rw [cellOf_writes] at hv
    split at hv
    · rename_i hc
      obtain ⟨rfl, hc⟩ := hc
      rw [hcel, if_pos hc, concs_eq, List.getElem?_map, hv]; rfl
    · rename_i hc
      have ht : Tr L j := .inl (h.ok j o v hv).2
      by_cases hji : j = i
      · subst hji
        rw [hcel, if_neg (fun hx => hc ⟨rfl, hx⟩)]
        exact h.cell j o v hv
      · rw [hcelo j o ht hji]; exact h.cell j o v hv
  · intro j o v hv
    rw [cellOf_writes] at hv
    rw [metaOf_writes]
    split at hv
    · rename_i hc
      exact ⟨oks_iff.1 hok v (List.mem_of_getElem? hv), hc.1 ▸ hm0⟩
    · exact h.ok j o v hv
  · intro j m hm
    rw [metaOf_writes] at hm
    obtain ⟨hv, cur, hcur, hes⟩ := h.blk j m hm
    by_cases hji : j = i
    · subst hji
      obtain ⟨cur', hc', hsz⟩ := hsame cur m.ty hcur
      exact ⟨hv, cur', hc', fun es he => by rw [hsz]; exact hes es he⟩
    · exact ⟨hv, cur, by rw [hoth _ (hneb j (.inl (by rw [hm]; rfl)) hji)]; exact hcur, hes⟩
  · intro j es hm
    rw [mapOf_writes] at hm
    obtain ⟨hv, hoks, ents, clock, hh, he⟩ := h.mp j es hm
    refine ⟨hv, hoks, ents, clock, ?_, he⟩
    rw [hoth _ ?_]; exact hh
    intro e
    obtain ⟨m, hm'⟩ := Option.isSome_iff_exists.1 hm0
    obtain ⟨_, cur, hcur, _⟩ := h.blk i m hm'
    rw [e, hcur] at hh; cases hh
  · intro a b ha hb he
    exact h.inj a b ((htr a).1 ha) ((htr b).1 hb) he
  · intro j m hm _ o hc
    by_cases hji : j = i
    · subst hji
      rw [hcel, if_neg]
      rintro ⟨h1, h2⟩
      have := hkn (o - off) (by omega)
      rw [show off + (o - off) = o by omega, hc] at this
      cases this
    · exact hcelo j o (.inl (by rw [hm]; rfl)) hji
  · intro j m hm _
    refine ⟨by rw [metaOf_writes]; exact hm, fun o hc => ?_⟩
    rw [cellOf_writes, if_neg, hc]
    rintro ⟨rfl, h1, h2⟩
    have := hkn (o - off) (by omega)
    rw [show off + (o - off) = o by omega, hc] at this
    cases this

/-- A row that grows where it lies: it goes by a new number. -/
theorem Step.regrow {φ : Phi} {V : Nat → Prop} {L : Log} {w w' : World} {n : Nat} (h : Sat φ V L w) (hc : Clear V n (n + 1)) (i : Nat) (m : Meta) (es : Nat) (hm : metaOf L i = some m) (hmk : m.k = some es)
    (cells : List AV) (hok : AV.oks V cells) (cs : Array Value) (hpre : ∀ (j : Nat) (v : AV), cells[j]? = some v → cs[j]? = some (conc φ v)) (hsz : cs.size = (φ i).2 * es) (hcap : (φ i).2 ≤ maxLen)
    (hos : w'.os = w.os) (htape : w'.tape = w.tape) (hout : w'.output = w.output) (hsize : w'.heap.size = w.heap.size)
    (hoth : ∀ b, b ≠ (φ i).1 → w'.heap[b]? = w.heap[b]?) (hnew : w'.heap[(φ i).1]? = some (.cells cs m.ty (0, 0))) :
    Step φ V L w (up φ n (φ i)) (Add V n (n + 1)) (.new n m.ty (some es) cells :: .kill i :: L) w' := by
  have hun := h.untr hc (Nat.lt_succ_self n)
  have hne : ∀ {i}, V i → i ≠ n := fun hi => hc.ne (Nat.lt_succ_self n) hi
  have hag : ∀ j, V j → up φ n (φ i) j = φ j := fun j hj => up_ne (hne hj)
  have hti : Tr L i := .inl (by rw [hm]; rfl)
  have hneb : ∀ j, Tr L j → j ≠ i → (φ j).1 ≠ (φ i).1 := fun j hj hji he => hji (h.inj j i hj hti he)
  have hcelo : ∀ j o, Tr L j → j ≠ i → w'.cell? ⟨(φ j).1, o, none⟩ = w.cell? ⟨(φ j).1, o, none⟩ := fun j o hj hji => World.cell?_of_block (hoth _ (hneb j hj hji))
  have hni : n ≠ i := fun e => hun (e ▸ hti)
  have trk : ∀ j, Tr (.kill i :: L) j → Tr L j ∧ j ≠ i := fun j hj => by
    unfold Tr at *; rw [metaOf_kill, mapOf_kill] at hj
    split at hj
    · simp at hj
    · rename_i e; exact ⟨hj, fun e' => e e'.symm⟩
  refine ⟨hag, fun _ hi => .inl hi, ⟨?_, ?_, ?_, ?_, ?_⟩, hos, htape, hout, by omega, fun b _ hn => hoth b fun e => hn i hti e.symm, ?_, ?_, ?_⟩
  · intro j o v hv
    rw [cellOf_new] at hv
    split at hv
    · rename_i e; subst e
      have hvok : v.ok V := oks_iff.1 hok v (List.mem_of_getElem? hv)
      rw [up_same, conc_agree hag v hvok]
      unfold World.cell?
      simp only [hnew]
      exact hpre o v hv
    · rw [cellOf_kill] at hv
      split at hv
      · cases hv
      · rename_i hji
        obtain ⟨hvok, hm'⟩ := h.ok j o v hv
        have ht : Tr L j := .inl hm'
        rw [hag j (h.valid ht), conc_agree hag v hvok, hcelo j o ht (fun e => hji e.symm)]
        exact h.cell j o v hv
  · intro j o v hv
    rw [cellOf_new] at hv
    rw [metaOf_new]
    split at hv
    · rename_i e
      exact ⟨ok_mono (fun _ h => .inl h) v (oks_iff.1 hok v (List.mem_of_getElem? hv)), by rw [if_pos e]; rfl⟩
    · rename_i e
      rw [cellOf_kill] at hv
      split at hv
      · cases hv
      · rename_i hji
        obtain ⟨hvok, hm'⟩ := h.ok j o v hv
        rw [if_neg e, metaOf_kill, if_neg hji]
        exact ⟨ok_mono (fun _ h => .inl h) v hvok, hm'⟩
  · intro j m' hm'
    rw [metaOf_new] at hm'
    split at hm'
    · rename_i e; subst e; cases hm'
      refine ⟨.inr ⟨Nat.le_refl _, Nat.lt_succ_self _⟩, cs, by rw [up_same]; exact hnew, fun es' he => ?_⟩
      rw [up_same]
      cases he
      exact ⟨hsz, hcap⟩
    · rw [metaOf_kill] at hm'
      split at hm'
      · cases hm'
      · rename_i hji
        obtain ⟨hv, cur, hcur, hes⟩ := h.blk j m' hm'
        rw [hag j hv]
        exact ⟨.inl hv, cur, by rw [hoth _ (hneb j (.inl (by rw [hm']; rfl)) (fun e => hji e.symm))]; exact hcur, hes⟩
  · intro j es' hmp
    rw [mapOf_new, mapOf_kill] at hmp
    split at hmp
    · cases hmp
    · rename_i hji
      obtain ⟨hv, hoks, ents, clock, hh, he⟩ := h.mp j es' hmp
      refine ⟨.inl hv, fun p hp => ok_mono (fun _ h => .inl h) _ (hoks p hp), ents, clock, by rw [hag j hv, hoth _ (hneb j (.inr (by rw [hmp]; rfl)) (fun e => hji e.symm))]; exact hh, ?_⟩
      rw [he]
      apply List.map_congr_left
      intro p hp
      rw [conc_agree hag _ (hoks p hp)]
  · intro a b ha hb he
    rw [Tr.new] at ha hb
    rcases ha with rfl | ha <;> rcases hb with rfl | hb
    · rfl
    · obtain ⟨hb1, hb2⟩ := trk b hb
      rw [up_same, hag b (h.valid hb1)] at he
      exact absurd he.symm (hneb b hb1 hb2)
    · obtain ⟨ha1, ha2⟩ := trk a ha
      rw [up_same, hag a (h.valid ha1)] at he
      exact absurd he (hneb a ha1 ha2)
    · obtain ⟨ha1, ha2⟩ := trk a ha
      obtain ⟨hb1, hb2⟩ := trk b hb
      rw [hag a (h.valid ha1), hag b (h.valid hb1)] at he
      exact h.inj a b ha1 hb1 he
  · intro j m' hm' hk off _
    by_cases hji : j = i
    · subst hji; rw [hm] at hm'; cases hm'; rw [hmk] at hk; cases hk
    · exact hcelo j off (.inl (by rw [hm']; rfl)) hji
  · intro j hj
    rw [Tr.new] at hj
    rcases hj with rfl | hj
    · exact .inr ⟨fun hV => hne hV rfl, .inr ⟨i, hti, by rw [up_same]⟩⟩
    · obtain ⟨h1, _⟩ := trk j hj
      exact .inl ⟨h.valid h1, h1⟩
  · intro j m' hm' hk
    have hji : i ≠ j := by rintro rfl; rw [hm] at hm'; cases hm'; rw [hmk] at hk; cases hk
    have hnj : n ≠ j := fun e => hun (.inl (by rw [e, hm']; rfl))
    exact ⟨by rw [metaOf_new, if_neg hnj, metaOf_kill, if_neg hji]; exact hm', fun off hc => by rw [cellOf_new, if_neg hnj, cellOf_kill, if_neg hji]; exact hc⟩

end Go.Sx
