/- The symbolic evaluator's soundness, tenth part: ways that are made one. Conditions: none. -/
import Derived.Test.YtokifhkjembekaaSxL
namespace Go.Sx
section
variable {P : Program} {φ φ' : Phi} {V V' : Nat → Prop} {nt : Nat} {env : Env} {a : Act} {L : Log} {w : World}

/-- v says what v0 says. -/
def Rel (v v0 : AV) : Prop := (∀ φ, conc φ v = conc φ v0) ∧ ∀ V, v0.ok V → v.ok V

theorem Rel.refl (v : AV) : Rel v v := ⟨fun _ => rfl, fun _ h => h⟩
theorem Rel.trans {a b c : AV} (h : Rel a b) (k : Rel b c) : Rel a c := ⟨fun φ => (h.1 φ).trans (k.1 φ), fun V hV => h.2 V (k.2 V hV)⟩

theorem mixV_spec {α : Type} {n : Nat} {f : α → Option AV} : ∀ {t : T α} {v : AV} {r : α}, mixV n f t = some v → t.run = some r → ∃ v0, f r = some v0 ∧ Rel v v0
  | .ret x, v, r, h, hr => by
    cases Option.some.inj hr
    simp only [mixV, Option.bind_eq_some_iff] at h
    obtain ⟨u, hu, h⟩ := h
    cases hb : u.under n with
    | false => rw [hb] at h; cases h
    | true => rw [hb] at h; cases h; exact ⟨_, hu, Rel.refl _⟩
  | .br b t e, v, r, h, hr => by
    simp only [mixV, Option.bind_eq_some_iff] at h
    obtain ⟨x, hx, y, hy, h⟩ := h
    obtain ⟨m1, m2⟩ := mix_spec h
    rcases T.br_run hr with ⟨hb, hr⟩ | ⟨hb, hr⟩
    · obtain ⟨v0, h1, h2⟩ := mixV_spec hx hr
      exact ⟨v0, h1, Rel.trans (m1 hb) h2⟩
    · obtain ⟨v0, h1, h2⟩ := mixV_spec hy hr
      exact ⟨v0, h1, Rel.trans (m2 hb) h2⟩
  | .bad s, v, r, h, hr => by cases h

/-- What a merged entry of the environment says of the one on the way that was taken. -/
def EVle (e e0 : EV) : Prop :=
  match e with
  | .val v => ∃ v0, e0 = .val v0 ∧ Rel v v0
  | .undef => e0 = .undef
  | .unk => True

theorem EVle.refl (e : EV) : EVle e e := by
  cases e with
  | val u => exact ⟨u, rfl, Rel.refl _⟩
  | undef => rfl
  | unk => trivial

theorem mixE_spec {α : Type} {n : Nat} {f : α → EV} : ∀ {t : T α} {v : EV} {r : α}, mixE n f t = some v → t.run = some r → EVle v (f r)
  | .ret x, v, r, h, hr => by
    cases Option.some.inj hr
    cases Option.some.inj h
    exact EVle.refl _
  | .br b t e, v, r, h, hr => by
    simp only [mixE, Option.bind_eq_some_iff] at h
    obtain ⟨x, hx, y, hy, h⟩ := h
    unfold mixEV at h
    split at h
    · rename_i p q
      cases hc : (p.under n && (q.under n && !unlike p q)) with
      | false => rw [hc] at h; cases h
      | true =>
        rw [hc] at h
        obtain ⟨m, hm, rfl⟩ := Option.map_eq_some_iff.1 h
        obtain ⟨m1, m2⟩ := mix_spec hm
        rcases T.br_run hr with ⟨hb, hr⟩ | ⟨hb, hr⟩
        · obtain ⟨v0, h1, h2⟩ := mixE_spec hx hr
          exact ⟨v0, h1, Rel.trans (m1 hb) h2⟩
        · obtain ⟨v0, h1, h2⟩ := mixE_spec hy hr
          exact ⟨v0, h1, Rel.trans (m2 hb) h2⟩
    · cases h
      rcases T.br_run hr with ⟨hb, hr⟩ | ⟨hb, hr⟩
      · exact mixE_spec hx hr
      · exact mixE_spec hy hr
    · cases h; trivial
  | .bad s, v, r, h, hr => by cases h

theorem tmpsOf_spec {α : Type} {f : α → Env} : ∀ {t : T α} {r : α}, t.run = some r → ∀ p ∈ f r, p.1 ∈ tmpsOf f t
  | .ret x, r, hr, p, hp => by
    cases Option.some.inj hr
    exact List.mem_map.2 ⟨p, hp, rfl⟩
  | .br b t e, r, hr, p, hp => by
    simp only [tmpsOf]
    rcases T.br_run hr with ⟨hb, hr⟩ | ⟨hb, hr⟩
    · exact List.mem_append.2 (.inl (tmpsOf_spec hr p hp))
    · have h := tmpsOf_spec hr p hp
      by_cases hm : p.1 ∈ tmpsOf f t
      · exact List.mem_append.2 (.inl hm)
      · refine List.mem_append.2 (.inr (List.mem_filter.2 ⟨h, ?_⟩))
        simp only [Bool.not_eq_true', List.any_eq_false]
        intro y hy hyb
        exact hm ((Nat.eq_of_beq_eq_true hyb) ▸ hy)
  | .bad s, r, hr, p, hp => by cases hr

theorem get_app_not {E be : Env} {u : Nat} (h : ∀ p ∈ E, p.1 ≠ u) : Env.get (app E be) u = Env.get be u := by
  rw [app_eq]
  induction E with
  | nil => rfl
  | cons p E ih =>
    obtain ⟨x, v⟩ := p
    rw [List.cons_append, get_cons, if_neg (h (x, v) (by simp))]
    exact ih fun q hq => h q (by simp [hq])

theorem mixEnv_spec {α : Type} {n : Nat} {be : Env} {f : α → Env} {t : T α} {r : α} (hr : t.run = some r) : ∀ {us : List Nat} {E : Env}, mixEnv n be f t us = some E →
    (∀ u, u ∈ us → EVle (Env.get (app E be) u) (Env.get (app (f r) be) u)) ∧ (∀ p ∈ E, p.1 ∈ us)
  | [], E, h => by
    cases h
    exact ⟨fun u hu => (by cases hu), fun p hp => (by cases hp)⟩
  | u :: us, E, h => by
    simp only [mixEnv, Option.bind_eq_some_iff] at h
    obtain ⟨v, hv, E', hE, h⟩ := h
    cases h
    obtain ⟨h1, h2⟩ := mixEnv_spec hr hE
    have hle := mixE_spec hv hr
    refine ⟨fun x hx => ?_, fun p hp => ?_⟩
    · by_cases hxu : u = x
      · subst hxu
        rw [app_eq, List.cons_append, get_cons, if_pos rfl]
        exact hle
      · have hx' : x ∈ us := by
          cases hx with
          | head => exact absurd rfl hxu
          | tail _ h => exact h
        rw [app_eq, List.cons_append, get_cons, if_neg hxu, ← app_eq]
        exact h1 x hx'
    · cases hp with
      | head => simp
      | tail _ hp => simp [h2 p hp]

theorem blt_iff {i n : Nat} : Nat.blt i n = true ↔ i < n := by simp [Nat.blt_eq]

theorem touched_spec {n n' : Nat} : ∀ {D : Log} {l : List (Nat × Nat)}, touched n n' D = some l → (∀ p ∈ l, p.1 < n) ∧
    ∀ L i, (i < n ∨ n' ≤ i) → metaOf (D ++ L) i = metaOf L i ∧ mapOf (D ++ L) i = mapOf L i ∧ ∀ off, (i, off) ∉ l → cellOf (D ++ L) i off = cellOf L i off
  | [], l, h => by cases h; exact ⟨fun p hp => (by cases hp), fun L i _ => ⟨rfl, rfl, fun _ _ => rfl⟩⟩
  | .wr j o v :: D, l, h => by
    simp only [touched, obind_eq, Option.bind_eq_some_iff] at h
    obtain ⟨l', hl', h⟩ := h
    obtain ⟨h0, h1⟩ := touched_spec hl'
    cases hb : Nat.blt j n with
    | true =>
      rw [hb] at h; cases h
      refine ⟨fun p hp => ?_, fun L i hi => ?_⟩
      · cases hp with
        | head => exact blt_iff.1 hb
        | tail _ hp => exact h0 p hp
      · obtain ⟨g1, g2, g3⟩ := h1 L i hi
        refine ⟨by rw [List.cons_append, metaOf_wr]; exact g1, by rw [List.cons_append, mapOf_wr]; exact g2, fun off hoff => ?_⟩
        rw [List.cons_append, cellOf_wr]
        have hne : ¬ (j = i ∧ o = off) := fun ⟨e1, e2⟩ => hoff (by subst e1; subst e2; simp)
        have := g3 off (fun hm => hoff (by simp [hm]))
        by_cases e1 : j = i
        · rw [if_pos e1, if_neg (fun e2 => hne ⟨e1, e2⟩)]; exact this
        · rw [if_neg e1]; exact this
    | false =>
      rw [hb] at h
      simp only [cond_false] at h
      cases hb' : Nat.blt j n' with
      | false => rw [hb'] at h; cases h
      | true =>
        rw [hb'] at h; cases h
        have hj1 : ¬ j < n := fun hlt => by rw [blt_iff.2 hlt] at hb; cases hb
        have hj2 := blt_iff.1 hb'
        refine ⟨h0, fun L i hi => ?_⟩
        obtain ⟨g1, g2, g3⟩ := h1 L i hi
        have hji : j ≠ i := by omega
        exact ⟨by rw [List.cons_append, metaOf_wr]; exact g1, by rw [List.cons_append, mapOf_wr]; exact g2, fun off hoff => by rw [List.cons_append, cellOf_wr, if_neg hji]; exact g3 off hoff⟩
  | .new j ty k cells :: D, l, h => by
    simp only [touched] at h
    cases hb : (Nat.ble n j && Nat.blt j n') with
    | false => rw [hb] at h; cases h
    | true =>
      rw [hb] at h
      simp only [Bool.and_eq_true] at hb
      have hj1 := Nat.le_of_ble_eq_true hb.1
      have hj2 := blt_iff.1 hb.2
      obtain ⟨h0, h1⟩ := touched_spec h
      refine ⟨h0, fun L i hi => ?_⟩
      obtain ⟨g1, g2, g3⟩ := h1 L i hi
      have hji : j ≠ i := by omega
      exact ⟨by rw [List.cons_append, metaOf_new, if_neg hji]; exact g1, by rw [List.cons_append, mapOf_new]; exact g2, fun off hoff => by rw [List.cons_append, cellOf_new, if_neg hji]; exact g3 off hoff⟩
  | .kill j :: D, l, h => by
    simp only [touched] at h
    cases hb : (Nat.ble n j && Nat.blt j n') with
    | false => rw [hb] at h; cases h
    | true =>
      rw [hb] at h
      simp only [Bool.and_eq_true] at hb
      have hj1 := Nat.le_of_ble_eq_true hb.1
      have hj2 := blt_iff.1 hb.2
      obtain ⟨h0, h1⟩ := touched_spec h
      refine ⟨h0, fun L i hi => ?_⟩
      obtain ⟨g1, g2, g3⟩ := h1 L i hi
      have hji : j ≠ i := by omega
      exact ⟨by rw [List.cons_append, metaOf_kill, if_neg hji]; exact g1, by rw [List.cons_append, mapOf_kill, if_neg hji]; exact g2, fun off hoff => by rw [List.cons_append, cellOf_kill, if_neg hji]; exact g3 off hoff⟩
  | .hide _ _ :: D, l, h => by cases h
  | .map j es :: D, l, h => by
    simp only [touched] at h
    cases hb : (Nat.ble n j && Nat.blt j n') with
    | false => rw [hb] at h; cases h
    | true =>
      rw [hb] at h
      simp only [Bool.and_eq_true] at hb
      have hj1 := Nat.le_of_ble_eq_true hb.1
      have hj2 := blt_iff.1 hb.2
      obtain ⟨h0, h1⟩ := touched_spec h
      refine ⟨h0, fun L i hi => ?_⟩
      obtain ⟨g1, g2, g3⟩ := h1 L i hi
      have hji : j ≠ i := by omega
      exact ⟨by rw [List.cons_append, metaOf_map]; exact g1, by rw [List.cons_append, mapOf_map, if_neg hji]; exact g2, fun off hoff => by rw [List.cons_append, cellOf_map]; exact g3 off hoff⟩

theorem touchedT_spec {α : Type} {n : Nat} {f : α → Option (Nat × Log)} : ∀ {t : T α} {ws : List (Nat × Nat)}, touchedT n f t = some ws → (∀ p ∈ ws, p.1 < n) ∧ ∀ r, t.run = some r → ∃ n' D l, f r = some (n', D) ∧ touched n n' D = some l ∧ ∀ p ∈ l, p ∈ ws
  | .ret x, ws, h => by
    simp only [touchedT, obind_eq, Option.bind_eq_some_iff] at h
    obtain ⟨⟨n', D⟩, hf, h⟩ := h
    refine ⟨(touched_spec h).1, fun r hr => ?_⟩
    cases Option.some.inj hr
    exact ⟨n', D, ws, hf, h, fun p hp => hp⟩
  | .br b t e, ws, h => by
    simp only [touchedT, obind_eq, Option.bind_eq_some_iff] at h
    obtain ⟨x, hx, y, hy, h⟩ := h
    cases h
    obtain ⟨hx0, hx1⟩ := touchedT_spec hx
    obtain ⟨hy0, hy1⟩ := touchedT_spec hy
    refine ⟨fun p hp => ?_, fun r hr => ?_⟩
    · rcases List.mem_append.1 hp with h | h
      · exact hx0 p h
      · exact hy0 p (List.mem_filter.1 h).1
    · rcases T.br_run hr with ⟨_, hr⟩ | ⟨_, hr⟩
      · obtain ⟨n', D, l, h1, h2, h3⟩ := hx1 r hr
        exact ⟨n', D, l, h1, h2, fun p hp => List.mem_append.2 (.inl (h3 p hp))⟩
      · obtain ⟨n', D, l, h1, h2, h3⟩ := hy1 r hr
        refine ⟨n', D, l, h1, h2, fun p hp => ?_⟩
        by_cases hm : p ∈ x
        · exact List.mem_append.2 (.inl hm)
        · refine List.mem_append.2 (.inr (List.mem_filter.2 ⟨h3 p hp, ?_⟩))
          simp only [Bool.not_eq_true', List.any_eq_false]
          intro q hq hqb
          simp only [Bool.and_eq_true] at hqb
          have e1 := Nat.eq_of_beq_eq_true hqb.1
          have e2 := Nat.eq_of_beq_eq_true hqb.2
          exact hm (by have : p = q := Prod.ext e1 e2; rw [this]; exact hq)
  | .bad s, ws, h => by cases h

theorem maxT_spec {α : Type} {f : α → Nat} : ∀ {t : T α} {r : α}, t.run = some r → f r ≤ maxT f t
  | .ret x, r, hr => by cases Option.some.inj hr; exact Nat.le_refl _
  | .br b t e, r, hr => by
    simp only [maxT]
    rcases T.br_run hr with ⟨_, hr⟩ | ⟨_, hr⟩
    · exact Nat.le_trans (maxT_spec hr) (Nat.le_max_left _ _)
    · exact Nat.le_trans (maxT_spec hr) (Nat.le_max_right _ _)
  | .bad s, r, hr => by cases hr

theorem mixCells_spec {α : Type} {n : Nat} {L : Log} {f : α → Log} {t : T α} {r : α} (hr : t.run = some r) : ∀ {ws : List (Nat × Nat)} {D : Log}, mixCells n L f t ws = some D →
    (∀ i off, (i, off) ∈ ws → ∃ v v0, cellOf (D ++ L) i off = some v ∧ cellOf (f r ++ L) i off = some v0 ∧ Rel v v0) ∧ (∀ i off, (i, off) ∉ ws → cellOf (D ++ L) i off = cellOf L i off) ∧
      ∀ i, metaOf (D ++ L) i = metaOf L i ∧ mapOf (D ++ L) i = mapOf L i
  | [], D, h => by cases h; exact ⟨fun i off h => (by cases h), fun _ _ _ => rfl, fun _ => ⟨rfl, rfl⟩⟩
  | (j, o) :: ws, D, h => by
    simp only [mixCells, Option.bind_eq_some_iff] at h
    obtain ⟨v, hv, D', hD, h⟩ := h
    cases h
    obtain ⟨v0, h1, h2⟩ := mixV_spec hv hr
    rw [app_eq] at h1
    obtain ⟨g1, g2, g3⟩ := mixCells_spec hr hD
    refine ⟨fun i off hm => ?_, fun i off hm => ?_, fun i => ⟨by rw [List.cons_append, metaOf_wr]; exact (g3 i).1, by rw [List.cons_append, mapOf_wr]; exact (g3 i).2⟩⟩
    · rw [List.cons_append, cellOf_wr]
      by_cases e1 : j = i
      · by_cases e2 : o = off
        · subst e1; subst e2
          exact ⟨v, v0, by simp, h1, h2⟩
        · rw [if_pos e1, if_neg e2]
          cases hm with
          | head => exact absurd rfl e2
          | tail _ hm => exact g1 i off hm
      · rw [if_neg e1]
        cases hm with
        | head => exact absurd rfl e1
        | tail _ hm => exact g1 i off hm
    · rw [List.cons_append, cellOf_wr]
      have hne : ¬ (j = i ∧ o = off) := fun ⟨e1, e2⟩ => hm (by subst e1; subst e2; simp)
      have := g2 i off (fun h => hm (by simp [h]))
      by_cases e1 : j = i
      · rw [if_pos e1, if_neg (fun e2 => hne ⟨e1, e2⟩)]; exact this
      · rw [if_neg e1]; exact this

/-- The step of the way that was taken is a step to what was made of all ways. -/
theorem Step.merge {φ φ₀ : Phi} {V : Nat → Prop} {L D₀ D : Log} {w w₀ : World} {n n₀ n' : Nat} {ws l : List (Nat × Nat)} (hs : Sat φ V L w) (h : Step φ V L w φ₀ (Add V n n₀) (D₀ ++ L) w₀)
    (hn' : n₀ ≤ n') (hcl : Clear V n n₀) (hws : ∀ p ∈ ws, p.1 < n) (ht : touched n n₀ D₀ = some l) (hl : ∀ p ∈ l, p ∈ ws)
    (g1 : ∀ i off, (i, off) ∈ ws → ∃ v v0, cellOf (D ++ L) i off = some v ∧ cellOf (D₀ ++ L) i off = some v0 ∧ Rel v v0) (g2 : ∀ i off, (i, off) ∉ ws → cellOf (D ++ L) i off = cellOf L i off)
    (g3 : ∀ i, metaOf (D ++ L) i = metaOf L i ∧ mapOf (D ++ L) i = mapOf L i) : Step φ V L w φ₀ (Add V n n') (D ++ L) w₀ := by
  obtain ⟨_, hA⟩ := touched_spec ht
  have hadd : ∀ i, Add V n n₀ i → Add V n n' i := fun i hi => hi.imp id fun h => ⟨h.1, Nat.lt_of_lt_of_le h.2 hn'⟩
  have htr : ∀ i, Tr (D ++ L) i ↔ Tr L i := fun i => by unfold Tr; rw [(g3 i).1, (g3 i).2]
  have htr0 : ∀ i, Tr L i → Tr (D₀ ++ L) i := fun i hi => by
    obtain ⟨a1, a2, _⟩ := hA L i (hcl i (hs.valid hi))
    unfold Tr at *; rw [a1, a2]; exact hi
  refine ⟨h.ag, fun i hi => .inl hi, ⟨?_, ?_, ?_, ?_, ?_⟩, h.os, h.tape, h.output, h.size, h.blk, h.cel, fun i hi => .inl ⟨hs.valid ((htr i).1 hi), (htr i).1 hi⟩, ?_⟩
  · intro i off v hv
    by_cases hm : (i, off) ∈ ws
    · obtain ⟨v', v0, e1, e2, e3⟩ := g1 i off hm
      rw [hv] at e1; cases e1
      rw [e3.1]; exact h.sat.cell i off v0 e2
    · rw [g2 i off hm] at hv
      have hvi := hs.valid (.inl (hs.ok i off v hv).2)
      obtain ⟨_, _, a3⟩ := hA L i (hcl i hvi)
      exact h.sat.cell i off v (by rw [a3 off (fun hx => hm (hl _ hx))]; exact hv)
  · intro i off v hv
    rw [(g3 i).1]
    by_cases hm : (i, off) ∈ ws
    · obtain ⟨v', v0, e1, e2, e3⟩ := g1 i off hm
      rw [hv] at e1; cases e1
      obtain ⟨o1, o2⟩ := h.sat.ok i off v0 e2
      obtain ⟨a1, _, _⟩ := hA L i (.inl (hws _ hm))
      exact ⟨ok_mono hadd v (e3.2 _ o1), by rw [← a1]; exact o2⟩
    · rw [g2 i off hm] at hv
      obtain ⟨o1, o2⟩ := hs.ok i off v hv
      exact ⟨ok_mono (fun _ h => .inl h) v o1, o2⟩
  · intro i m hm
    rw [(g3 i).1] at hm
    have hvi := (hs.blk i m hm).1
    obtain ⟨a1, _, _⟩ := hA L i (hcl i hvi)
    obtain ⟨_, hb⟩ := h.sat.blk i m (by rw [a1]; exact hm)
    exact ⟨.inl hvi, hb⟩
  · intro i es hm
    rw [(g3 i).2] at hm
    have hvi := (hs.mp i es hm).1
    obtain ⟨_, a2, _⟩ := hA L i (hcl i hvi)
    obtain ⟨_, hok, hb⟩ := h.sat.mp i es (by rw [a2]; exact hm)
    exact ⟨.inl hvi, fun p hp => ok_mono hadd _ (hok p hp), hb⟩
  · intro x y hx hy he
    exact h.sat.inj x y (htr0 x ((htr x).1 hx)) (htr0 y ((htr y).1 hy)) he
  · intro i m hm hk
    refine ⟨by rw [(g3 i).1]; exact hm, fun off hc => ?_⟩
    by_cases hmem : (i, off) ∈ ws
    · obtain ⟨v', v0, _, e2, _⟩ := g1 i off hmem
      rw [(h.keep i m hm hk).2 off hc] at e2; cases e2
    · rw [g2 i off hmem]; exact hc

theorem EnvOK.merge {φ₀ : Phi} {W : Nat → Prop} {E E₀ be : Env} {us : List Nat} {a : Act} (h : EnvOK φ₀ W nt (app E₀ be) a) (hE0 : ∀ p ∈ E₀, p.1 ∈ us) (hE : ∀ p ∈ E, p.1 ∈ us)
    (hle : ∀ u, u ∈ us → EVle (Env.get (app E be) u) (Env.get (app E₀ be) u)) : EnvOK φ₀ W nt (app E be) a := by
  have key : ∀ u, EVle (Env.get (app E be) u) (Env.get (app E₀ be) u) := fun u => by
    by_cases hu : u ∈ us
    · exact hle u hu
    · rw [get_app_not (E := E) (fun p hp e => hu (by rw [← e]; exact hE p hp)), get_app_not (E := E₀) (fun p hp e => hu (by rw [← e]; exact hE0 p hp))]
      cases hg : be.get u with
      | val v => exact ⟨v, rfl, Rel.refl _⟩
      | undef => rfl
      | unk => trivial
  refine ⟨h.size, h.nd, fun t v hg => ?_, fun t hg => ?_⟩
  · have := key t
    rw [hg] at this
    obtain ⟨v0, e1, e2⟩ := this
    obtain ⟨o1, o2⟩ := h.val t v0 e1
    exact ⟨by rw [e2.1]; exact o1, e2.2 _ o2⟩
  · have := key t
    rw [hg] at this
    exact h.und t this

end
end Go.Sx
