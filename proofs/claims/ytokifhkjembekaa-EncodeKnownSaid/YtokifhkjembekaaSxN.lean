/- The symbolic evaluator's soundness, eleventh part: regions in the order of the text, and code. Conditions: none. -/
import Derived.Test.YtokifhkjembekaaSxM
import Derived.LoopN
import Derived.Orders
namespace Go.Sx

theorem app_assoc {α : Type} (x y z : List α) : app (app x y) z = app x (app y z) := by simp [app_eq]
theorem app_nil {α : Type} (x : List α) : app [] x = x := rfl

def exitOf : Ex → Exit
  | .normal => .normal
  | .exit id => .exit id
  | .ret => .ret

/-- What the evaluation of a piece says of a way to run it. -/
def GoesW (nt : Nat) (be : Env) (base : Log) (st : St) (r : R) (X : (Exit → Act → World → Prop) → Act → World → Prop) : Prop :=
  st.2.1 ≤ r.2.2.1 ∧ ∀ (φ : Phi) (V : Nat → Prop) (a : Act) (w : World) (Q : Exit → Act → World → Prop), Clear V st.2.1 r.2.2.1 → EnvOK φ V nt (app st.1 be) a → Sat φ V (app st.2.2 base) w →
    (∀ φ' a' w', Step φ V (app st.2.2 base) w φ' (Add V st.2.1 r.2.2.1) (app r.2.2.2 base) w' → EnvOK φ' (Add V st.2.1 r.2.2.1) nt (app r.2.1 be) a' → Q (exitOf r.1) a' w') → X Q a w

section
variable {P : Program} {nt : Nat} {be : Env} {base : Log} {st : St}

theorem GoesW.imp {r : R} {X Y : (Exit → Act → World → Prop) → Act → World → Prop} (h : GoesW nt be base st r X) (hXY : ∀ Q a w, X Q a w → Y Q a w) : GoesW nt be base st r Y :=
  ⟨h.1, fun φ V a w Q hc he hs hK => hXY Q a w (h.2 φ V a w Q hc he hs hK)⟩

theorem GoesW.stay {e : Ex} {X : (Exit → Act → World → Prop) → Act → World → Prop} (h : ∀ (Q : Exit → Act → World → Prop) a w, Q (exitOf e) a w → X Q a w) : GoesW nt be base st (e, st) X :=
  ⟨Nat.le_refl _, fun φ V a w Q _ he hs hK => h Q a w (by
    simp only [Add.same] at hK
    exact hK φ a w (Step.refl hs) he)⟩

theorem GoesW.seq {st1 : St} {r : R} {X Y : (Exit → Act → World → Prop) → Act → World → Prop} (h : GoesW nt be base st (.normal, st1) X) (k : GoesW nt be base st1 r Y) :
    GoesW nt be base st r (fun Q => X (Exit.then (Y Q) Q)) := by
  obtain ⟨h1, h2⟩ := h
  obtain ⟨k1, k2⟩ := k
  refine ⟨Nat.le_trans h1 k1, fun φ V a w Q hc he hs hK => h2 φ V a w _ (hc.left k1) he hs fun φ' a' w' st' he' => ?_⟩
  refine k2 φ' _ a' w' Q (hc.right h1) he' st'.sat fun φ'' a'' w'' st'' he'' => ?_
  rw [Add.join V h1 k1] at st'' he''
  exact hK φ'' a'' w'' (Step.trans hs st' st'') he''

theorem GoesW.out {r : R} {X Y : (Exit → Act → World → Prop) → Act → World → Prop} (h : GoesW nt be base st r X) (hr : r.1 ≠ .normal) : GoesW nt be base st r (fun Q => X (Exit.then (Y Q) Q)) := by
  obtain ⟨h1, h2⟩ := h
  refine ⟨h1, fun φ V a w Q hc he hs hK => h2 φ V a w _ hc he hs fun φ' a' w' st' he' => ?_⟩
  have := hK φ' a' w' st' he'
  cases hx : r.1 with
  | normal => exact absurd hx hr
  | exit id => rw [hx] at this; exact this
  | ret => rw [hx] at this; exact this

theorem GoesW.upon {r : R} {X : (Exit → Act → World → Prop) → Act → World → Prop} (h : GoesW nt (app st.1 be) (app st.2.2 base) ([], st.2.1, []) r X) : GoesW nt be base st (upon st r) X := by
  obtain ⟨e, E, n, D⟩ := r
  obtain ⟨h1, h2⟩ := h
  refine ⟨h1, fun φ V a w Q hc he hs hK => h2 φ V a w Q hc he hs fun φ' a' w' st' he' => ?_⟩
  refine hK φ' a' w' ?_ ?_
  · show Step _ _ _ _ _ _ (app (app D st.2.2) base) _
    rw [app_assoc]; exact st'
  · show EnvOK _ _ _ (app (app E st.1) be) _
    rw [app_assoc]; exact he'

theorem touchedT_run {α : Type} {n : Nat} {f : α → Option (Nat × Log)} : ∀ {t : T α} {ws : List (Nat × Nat)}, touchedT n f t = some ws → ∃ r, t.run = some r
  | .ret x, _, _ => ⟨x, rfl⟩
  | .br b t e, ws, h => by
    simp only [touchedT, obind_eq, Option.bind_eq_some_iff] at h
    obtain ⟨x, hx, y, hy, h⟩ := h
    cases b with
    | false => exact (touchedT_run hy).imp fun r hr => hr
    | true => exact (touchedT_run hx).imp fun r hr => hr
  | .bad s, _, h => by cases h

theorem mergeSt_spec {n : Nat} {t : T R} {r : R} (h : (mergeSt n be base t).run = some r) : ∃ r0, t.run = some r0 ∧ ∀ X, GoesW nt be base ([], n, []) r0 X → GoesW nt be base ([], n, []) r X := by
  cases t with
  | ret x => exact ⟨r, h, fun X hX => hX⟩
  | bad s => cases h
  | br b x y =>
    unfold mergeSt at h
    simp only [] at h
    split at h
    · rename_i st' heq
      cases Option.some.inj h
      simp only [obind_eq, Option.bind_eq_some_iff] at heq
      obtain ⟨ws, hws, E, hE, D, hD, h3⟩ := heq
      cases h3
      obtain ⟨⟨e0, E0, n0, D0⟩, hr0⟩ := touchedT_run hws
      refine ⟨_, hr0, fun X hX => ?_⟩
      obtain ⟨w1, w2⟩ := touchedT_spec hws
      obtain ⟨n1, D1, l, g1, g2, g3⟩ := w2 _ hr0
      cases e0 with
      | normal =>
        cases g1
        obtain ⟨c1, c2, c3⟩ := mixCells_spec hr0 hD
        obtain ⟨m1, m2⟩ := mixEnv_spec hr0 hE
        have hmax := maxT_spec (f := fun r : R => r.2.2.1) hr0
        obtain ⟨h1, h2⟩ := hX
        refine ⟨Nat.le_trans h1 hmax, fun φ V a w Q hc he hs hK => ?_⟩
        have hcl := hc.left hmax
        refine h2 φ V a w Q hcl he hs fun φ' a' w' st' he' => ?_
        simp only [app_eq, List.nil_append] at hs st'
        refine hK φ' a' w' ?_ ?_
        · simp only [app_eq, List.nil_append]
          exact Step.merge hs st' hmax hcl w1 g2 g3 c1 c2 c3
        · have hem := EnvOK.merge (us := tmpsOf (fun r : R => r.2.1) (.br b x y)) he' (tmpsOf_spec (f := fun r : R => r.2.1) hr0) m2 m1
          exact hem.mono (fun _ _ => rfl) fun i hi => hi.imp id fun h => ⟨h.1, Nat.lt_of_lt_of_le h.2 hmax⟩
      | exit id => cases g1
      | ret => cases g1
    · exact ⟨r, h, fun X hX => hX⟩

theorem bif_run {β : Type} {c : Bool} {t : T β} {s : String} {y : β} (h : (bif c then t else .bad s).run = some y) : c = true ∧ t.run = some y := by
  cases c with
  | true => exact ⟨rfl, h⟩
  | false => cases h

/-- One operation, evaluated. -/
theorem evDo_spec {call : CallF} (hcall : CallsOK P call) (hn : NoCount P) {o : Oper} {st' : St} (h : (evDo P call nt be base o st).run = some st') :
    st.2.1 ≤ st'.2.1 ∧ ∀ (φ : Phi) (V : Nat → Prop) (a : Act) (w : World) (K : Act → World → Prop) (Q : Exit → Act → World → Prop), Clear V st.2.1 st'.2.1 → EnvOK φ V nt (app st.1 be) a → Sat φ V (app st.2.2 base) w →
      (∀ φ' a' w', Step φ V (app st.2.2 base) w φ' (Add V st.2.1 st'.2.1) (app st'.2.2 base) w' → EnvOK φ' (Add V st.2.1 st'.2.1) nt (app st'.1 be) a' → K a' w') → o.wp P a w K Q := by
  unfold evDo at h
  obtain ⟨hd, h⟩ := bif_run h
  obtain ⟨r, hr, h⟩ := T.bind_run h
  cases Option.some.inj h
  replace hr := T.at_run hr
  obtain ⟨h1, h2⟩ := evAny_spec (nt := nt) hcall hn hr
  refine ⟨h1, fun φ V a w K Q hc he hs hK => h2 φ V a w K Q hc he hs fun φ' w' x hst hx => ?_⟩
  have hlt : ∀ d, o.dst = some d → d < nt := fun d hdd => by
    rw [hdd] at hd
    exact blt_iff.1 hd
  refine hK φ' _ w' ?_ ?_
  · rw [show app (app r.2.2 st.2.2) base = r.2.2 ++ app st.2.2 base from by rw [app_assoc, app_eq]]
    exact hst
  · have := EnvOK.put (he.mono hst.ag hst.vs) hlt hx
    cases hdd : o.dst with
    | none => rw [hdd] at this; exact this
    | some d => rw [hdd] at this; exact this

theorem EnvOK.refine {φ : Phi} {V : Nat → Prop} {env : Env} {a : Act} (h : EnvOK φ V nt env a) {t : Nat} {s : Bool} {b : Bool} (hg : env.get t = .val (tag s (.bool b))) : EnvOK φ V nt ((t, .val (.c (.bool b))) :: env) a := by
  refine ⟨h.size, h.nd, fun u v hu => ?_, fun u hu => ?_⟩
  · rw [get_cons] at hu
    by_cases e : t = u
    · rw [if_pos e] at hu; cases hu
      obtain ⟨h1, _⟩ := h.val t _ hg
      rw [conc_tag] at h1
      exact ⟨by rw [← e]; exact h1, trivial⟩
    · rw [if_neg e] at hu; exact h.val u v hu
  · rw [get_cons] at hu
    by_cases e : t = u
    · rw [if_pos e] at hu; cases hu
    · rw [if_neg e] at hu; exact h.und u hu

/-- What a guard's temporary says. -/
theorem yielded_val {φ : Phi} {V : Nat → Prop} {env : Env} {a : Act} (h : EnvOK φ V nt env a) {ops : Array Oper} {j t : Nat} (ht : obind (nthL ops.toList j) (·.dst) = some t) {s b : Bool}
    (hg : env.get t = .val (tag s (.bool b))) : yielded ops a.tmps j = some b := by
  rw [obind_eq, nthL_eq, Array.getElem?_toList] at ht
  obtain ⟨h1, _⟩ := h.val t _ hg
  rw [conc_tag] at h1
  simp only [yielded, ht, Option.bind_some, h1]

theorem yielded_undef {φ : Phi} {V : Nat → Prop} {env : Env} {a : Act} (h : EnvOK φ V nt env a) {ops : Array Oper} {j t : Nat} (ht : obind (nthL ops.toList j) (·.dst) = some t)
    (hg : env.get t = .undef) : yielded ops a.tmps j = none := by
  rw [obind_eq, nthL_eq, Array.getElem?_toList] at ht
  have h1 := h.und t hg
  simp only [yielded, ht, Option.bind_some]
  rw [Array.getD_eq_getD_getElem?] at h1
  cases hx : a.tmps[t]? with
  | none => rfl
  | some x => rw [hx] at h1; simp only [Option.getD_some] at h1; subst h1; rfl

theorem EnvOK.skip {φ : Phi} {V : Nat → Prop} {env : Env} {a : Act} (h : EnvOK φ V nt env a) (dst : Option Tmp) : EnvOK φ V nt (Sx.put env dst .undef) (a.put dst undef) := by
  cases dst with
  | none => exact h
  | some d =>
    rcases Nat.lt_or_ge d nt with hl | hl
    · exact EnvOK.put (dst := some d) (e := .undef) (x := undef) h (fun e he => by cases he; exact hl) rfl
    · have hsame : (a.put (some d) undef).tmps = a.tmps := by
        simp only [Act.put]
        exact Array.setIfInBounds_eq_of_size_le (by rw [h.size]; exact hl)
      refine ⟨by rw [hsame]; exact h.size, h.nd, fun t v hg => ?_, fun t hg => ?_⟩
      · rw [Sx.put, get_cons] at hg
        by_cases e : d = t
        · rw [if_pos e] at hg; cases hg
        · rw [if_neg e] at hg; rw [hsame]; exact h.val t v hg
      · rw [Sx.put, get_cons] at hg
        rw [hsame]
        by_cases e : d = t
        · subst e
          rw [Array.getD_eq_getD_getElem?, Array.getElem?_eq_none (by rw [h.size]; exact hl)]; rfl
        · rw [if_neg e] at hg; exact h.und t hg

theorem put_app (E be : Env) (dst : Option Tmp) (e : EV) : app (put E dst e) be = put (app E be) dst e := by
  cases dst <;> rfl

/-- The operations of a region in the order of the text. -/
theorem evOps_spec {call : CallF} (hcall : CallsOK P call) (hn : NoCount P) (ops : Array Oper) : ∀ (rest : List Oper) (st r : St), (evOps P call nt be base ops.toList rest st).run = some r →
    GoesW nt be base st (.normal, r) (fun Q a w => wpList P ops Q rest a w)
  | [], st, r, h => by
    cases Option.some.inj h
    exact GoesW.stay fun Q a w h => wpList_nil h
  | o :: rest, st, r, h => by
    have ih := evOps_spec hcall hn ops rest
    have hdo : ∀ st0 : St, ((evDo P call nt be base o st0).bind (evOps P call nt be base ops.toList rest)).run = some r → st0.2.1 ≤ r.2.1 ∧ ∀ (φ : Phi) (V : Nat → Prop) (a : Act) (w : World) (Q : Exit → Act → World → Prop) (K : Act → World → Prop),
        (∀ a w, wpList P ops Q rest a w → K a w) → Clear V st0.2.1 r.2.1 → EnvOK φ V nt (app st0.1 be) a → Sat φ V (app st0.2.2 base) w →
        (∀ φ' a' w', Step φ V (app st0.2.2 base) w φ' (Add V st0.2.1 r.2.1) (app r.2.2 base) w' → EnvOK φ' (Add V st0.2.1 r.2.1) nt (app r.1 be) a' → Q .normal a' w') → o.wp P a w K Q := fun st0 h => by
      obtain ⟨st1, h1, h2⟩ := T.bind_run h
      obtain ⟨d1, d2⟩ := evDo_spec hcall hn h1
      obtain ⟨k1, k2⟩ := ih st1 r h2
      refine ⟨Nat.le_trans d1 k1, fun φ V a w Q K hQK hc he hs hK => d2 φ V a w K Q (hc.left k1) he hs fun φ' a' w' st' he' => hQK _ _ ?_⟩
      refine k2 φ' _ a' w' Q (hc.right d1) he' st'.sat fun φ'' a'' w'' st'' he'' => ?_
      simp only [Add.join V d1 k1] at st'' he''
      exact hK φ'' a'' w'' (Step.trans hs st' st'') he''
    have hno : ∀ st0 : St, (evOps P call nt be base ops.toList rest (put st0.1 o.dst .undef, st0.2)).run = some r → st0.2.1 ≤ r.2.1 ∧ ∀ (φ : Phi) (V : Nat → Prop) (a : Act) (w : World) (Q : Exit → Act → World → Prop) (K : Act → World → Prop),
        (∀ a w, wpList P ops Q rest a w → K a w) → Clear V st0.2.1 r.2.1 → EnvOK φ V nt (app st0.1 be) a → Sat φ V (app st0.2.2 base) w →
        (∀ φ' a' w', Step φ V (app st0.2.2 base) w φ' (Add V st0.2.1 r.2.1) (app r.2.2 base) w' → EnvOK φ' (Add V st0.2.1 r.2.1) nt (app r.1 be) a' → Q .normal a' w') → K (a.put o.dst undef) w := fun st0 h => by
      obtain ⟨k1, k2⟩ := ih _ r h
      refine ⟨k1, fun φ V a w Q K hQK hc he hs hK => hQK _ _ (k2 φ V _ w Q hc ?_ hs hK)⟩
      show EnvOK φ V nt (app (put st0.1 o.dst .undef) be) _
      rw [put_app]; exact he.skip o.dst
    change (evGuard P call nt be base ops.toList o (evOps P call nt be base ops.toList rest) st).run = some r at h
    unfold evGuard at h
    split at h
    · rename_i hg
      obtain ⟨h1, h2⟩ := hdo st h
      exact ⟨h1, fun φ V a w Q hc he hs hK => wpList_plain hg fun K hQK => h2 φ V a w Q K hQK hc he hs hK⟩
    · rename_i j want hg
      split at h
      · exact (bad_run h).elim
      · rename_i t ht
        split at h
        · rename_i v hv
          replace h := onBool_run h
          rcases h with ⟨s, b, rfl, h⟩ | h
          · have hy : ∀ (φ : Phi) (V : Nat → Prop) (a : Act), EnvOK φ V nt (app st.1 be) a → Region.wanted o (yielded ops a.tmps) = (b == want) := fun φ V a he => by
              simp only [Region.wanted, hg, yielded_val he ht hv]
              cases b <;> cases want <;> rfl
            cases s with
            | false =>
              cases hbw : (b == want) with
              | true =>
                rw [hbw] at h
                obtain ⟨h1, h2⟩ := hdo st h
                refine ⟨h1, fun φ V a w Q hc he hs hK => wpList_step fun K hQK => ?_⟩
                rw [if_pos (by rw [hy φ V a he, hbw])]
                exact h2 φ V a w Q K hQK hc he hs hK
              | false =>
                rw [hbw] at h
                obtain ⟨h1, h2⟩ := hno st h
                refine ⟨h1, fun φ V a w Q hc he hs hK => wpList_step fun K hQK => ?_⟩
                rw [if_neg (by rw [hy φ V a he, hbw]; decide)]
                exact h2 φ V a w Q K hQK hc he hs hK
            | true =>
              rcases T.br_run h with ⟨hb, h⟩ | ⟨hb, h⟩
              · have hbw : b = want := eq_of_beq hb
                obtain ⟨h1, h2⟩ := hdo _ h
                refine ⟨h1, fun φ V a w Q hc he hs hK => wpList_step fun K hQK => ?_⟩
                rw [if_pos (by rw [hy φ V a he, hb])]
                exact h2 φ V a w Q K hQK hc (by subst hbw; exact he.refine hv) hs hK
              · have hbw : b = !want := by cases b <;> cases want <;> first | rfl | (cases hb)
                obtain ⟨h1, h2⟩ := hno (((t, .val (.c (.bool !want))) :: st.1), st.2) h
                refine ⟨h1, fun φ V a w Q hc he hs hK => wpList_step fun K hQK => ?_⟩
                rw [if_neg (by rw [hy φ V a he, hb]; decide)]
                exact h2 φ V a w Q K hQK hc (by subst hbw; exact he.refine hv) hs hK
          · exact (bad_run h).elim
        · rename_i hv
          obtain ⟨h1, h2⟩ := hno st h
          refine ⟨h1, fun φ V a w Q hc he hs hK => wpList_step fun K hQK => ?_⟩
          rw [if_neg (by simp only [Region.wanted, hg, yielded_undef he ht hv]; exact fun h => by cases h)]
          exact h2 φ V a w Q K hQK hc he hs hK
        · exact (bad_run h).elim

def DrawOK (P : Program) (draw : DrawF) : Prop := ∀ nt id be base ops n s, (draw nt id be base ops n).run = some s → GoesW nt be base ([], n, []) (.normal, s) (fun Q a w => (Code.region id ops true).wp P Q a w)

theorem evRegion_spec {call : CallF} (hcall : CallsOK P call) (hn : NoCount P) {draw : DrawF} (hdr : DrawOK P draw) {id : Nat} {ops : Array Oper} {d : Bool} {r : R}
    (h : (evRegion P call draw nt id ops d be base st).run = some r) : GoesW nt be base st r (fun Q a w => (Code.region id ops d).wp P Q a w) := by
  unfold evRegion at h
  obtain ⟨r1, h1, h⟩ := T.bind_run h
  cases Option.some.inj h
  refine GoesW.upon ?_
  obtain ⟨r0, h0, hm⟩ := mergeSt_spec (nt := nt) h1
  refine hm _ ?_
  obtain ⟨s, hs, h0⟩ := T.bind_run h0
  cases Option.some.inj h0
  cases d with
  | false => exact (evOps_spec hcall hn ops ops.toList _ s hs).imp fun Q a w h => wp_region_list h
  | true => exact hdr nt id _ _ ops _ s hs

theorem evCond_spec {t : Nat} {x y : CodeF} {cx cy : Code} {r : R} (hx : ∀ be base st r, (x be base st).run = some r → GoesW nt be base st r (fun Q a w => cx.wp P Q a w))
    (hy : ∀ be base st r, (y be base st).run = some r → GoesW nt be base st r (fun Q a w => cy.wp P Q a w)) (h : (evCond t x y be base st).run = some r) :
    GoesW nt be base st r (fun Q a w => (Code.cond (.tmp t) cx cy).wp P Q a w) := by
  unfold evCond at h
  cases hv : Env.get (app st.1 be) t with
  | undef => rw [hv] at h; exact (bad_run h).elim
  | unk => rw [hv] at h; exact (bad_run h).elim
  | val v =>
    rw [hv] at h
    simp only [EV.onVal] at h
    replace h := onBool_run h
    rcases h with ⟨s, b, rfl, h⟩ | h
    · have hev : ∀ (φ : Phi) (V : Nat → Prop) (a : Act), EnvOK φ V nt (app st.1 be) a → a.eval (.tmp t) = .bool b := fun φ V a he => by
        obtain ⟨h1, _⟩ := he.val t _ hv
        rw [conc_tag] at h1
        simp [Act.eval, Array.getD_eq_getD_getElem?, h1]
      cases s with
      | false =>
        cases b with
        | true =>
          obtain ⟨k1, k2⟩ := hx be base st r h
          exact ⟨k1, fun φ V a w Q hc he hs hK => wp_cond_true (hev φ V a he) (k2 φ V a w Q hc he hs hK)⟩
        | false =>
          obtain ⟨k1, k2⟩ := hy be base st r h
          exact ⟨k1, fun φ V a w Q hc he hs hK => wp_cond_false (hev φ V a he) (k2 φ V a w Q hc he hs hK)⟩
      | true =>
        obtain ⟨r1, h1, h⟩ := T.bind_run h
        cases Option.some.inj h
        refine GoesW.upon ?_
        obtain ⟨r0, h0, hm⟩ := mergeSt_spec (nt := nt) h1
        refine hm _ ?_
        rcases T.br_run h0 with ⟨hb, h0⟩ | ⟨hb, h0⟩
        · subst hb
          obtain ⟨k1, k2⟩ := hx _ _ _ _ h0
          exact ⟨k1, fun φ V a w Q hc he hs hK => wp_cond_true (hev φ V a he) (k2 φ V a w Q hc (EnvOK.refine (s := true) he hv) hs hK)⟩
        · subst hb
          obtain ⟨k1, k2⟩ := hy _ _ _ _ h0
          exact ⟨k1, fun φ V a w Q hc he hs hK => wp_cond_false (hev φ V a he) (k2 φ V a w Q hc (EnvOK.refine (s := true) he hv) hs hK)⟩
    · exact (bad_run h).elim

theorem vBool_run {β : Type} {s : String} {f : Bool → T β} {v : Value} {y : β} (h : (vBool (.bad s) f v).run = some y) : ∃ b, v = .bool b ∧ (f b).run = some y := by
  cases v <;> first | exact ⟨_, rfl, h⟩ | exact (bad_run h).elim

theorem loopN_spec {x : St → T R} {c : Code} (hx : ∀ st r, (x st).run = some r → GoesW nt be base st r (fun Q a w => c.wp P Q a w)) : ∀ (k : Nat) (st : St) (r : R), (loopN x k st).run = some r →
    GoesW nt be base st r (fun Q a w => Code.rounds P c Q k a w)
  | 0, st, r, h => (bad_run h).elim
  | k + 1, st, r, h => by
    change ((x st).bind (thenDo (loopN x k))).run = some r at h
    obtain ⟨⟨e, st1⟩, h1, h⟩ := T.bind_run h
    have g1 := hx st _ h1
    cases e with
    | normal => exact GoesW.seq g1 (loopN_spec hx k st1 r h)
    | exit id => cases Option.some.inj h; exact GoesW.out g1 (by simp)
    | ret => cases Option.some.inj h; exact GoesW.out g1 (by simp)

theorem evCode_spec {call : CallF} (hcall : CallsOK P call) (hn : NoCount P) {draw : DrawF} (hdr : DrawOK P draw) (lf : Nat) (c : Code) : ∀ (be : Env) (base : Log) (st : St) (r : R),
    (evCode P call draw nt lf c be base st).run = some r → GoesW nt be base st r (fun Q a w => c.wp P Q a w) := by
  induction c with
  | skip => intro be base st r h; cases Option.some.inj h; exact GoesW.stay fun Q a w h => wp_skip h
  | region id ops d => intro be base st r h; exact evRegion_spec hcall hn hdr h
  | seq x y ihx ihy =>
    intro be base st r h
    change ((evCode P call draw nt lf x be base st).bind (thenDo (evCode P call draw nt lf y be base))).run = some r at h
    obtain ⟨⟨e, st1⟩, h1, h⟩ := T.bind_run h
    have g1 := ihx be base st _ h1
    cases e with
    | normal => exact (GoesW.seq g1 (ihy be base st1 r h)).imp fun Q a w h => wp_seq h
    | exit id => cases Option.some.inj h; exact (GoesW.out (Y := fun Q a w => y.wp P Q a w) g1 (by simp)).imp fun Q a w h => wp_seq h
    | ret => cases Option.some.inj h; exact (GoesW.out (Y := fun Q a w => y.wp P Q a w) g1 (by simp)).imp fun Q a w h => wp_seq h
  | cond c x y ihx ihy =>
    intro be base st r h
    change (condOf c (evCode P call draw nt lf x) (evCode P call draw nt lf y) be base st).run = some r at h
    cases c with
    | tmp t => exact evCond_spec ihx ihy h
    | const v =>
      obtain ⟨b, rfl, h⟩ := vBool_run h
      cases b with
      | true =>
        obtain ⟨k1, k2⟩ := ihx be base st r h
        exact ⟨k1, fun φ V a w Q hc he hs hK => wp_cond_true rfl (k2 φ V a w Q hc he hs hK)⟩
      | false =>
        obtain ⟨k1, k2⟩ := ihy be base st r h
        exact ⟨k1, fun φ V a w Q hc he hs hK => wp_cond_false rfl (k2 φ V a w Q hc he hs hK)⟩
    | global g => exact (bad_run h).elim
    | func f => exact (bad_run h).elim
  | block id x ih =>
    intro be base st r h
    change ((evCode P call draw nt lf x be base st).bind fun r => .ret (outOf id r)).run = some r at h
    obtain ⟨⟨e, st1⟩, h1, h⟩ := T.bind_run h
    cases Option.some.inj h
    obtain ⟨k1, k2⟩ := ih be base st _ h1
    cases e with
    | normal => exact ⟨k1, fun φ V a w Q hc he hs hK => wp_block (k2 φ V a w _ hc he hs fun φ' a' w' st' he' => hK φ' a' w' st' he')⟩
    | ret => exact ⟨k1, fun φ V a w Q hc he hs hK => wp_block (k2 φ V a w _ hc he hs fun φ' a' w' st' he' => hK φ' a' w' st' he')⟩
    | exit j =>
      cases hj : Nat.beq j id with
      | true =>
        have hji := Nat.eq_of_beq_eq_true hj
        simp only [outOf, hj]
        refine ⟨k1, fun φ V a w Q hc he hs hK => wp_block (k2 φ V a w _ hc he hs fun φ' a' w' st' he' => ?_)⟩
        show (if j = id then Q .normal a' w' else Q (.exit j) a' w')
        rw [if_pos hji]; exact hK φ' a' w' st' he'
      | false =>
        have hji : j ≠ id := fun e => by rw [e] at hj; simp at hj
        simp only [outOf, hj]
        refine ⟨k1, fun φ V a w Q hc he hs hK => wp_block (k2 φ V a w _ hc he hs fun φ' a' w' st' he' => ?_)⟩
        show (if j = id then Q .normal a' w' else Q (.exit j) a' w')
        rw [if_neg hji]; exact hK φ' a' w' st' he'
  | loop x ih =>
    intro be base st r h
    exact (loopN_spec (fun st r => ih be base st r) lf st r h).imp fun Q a w h => wp_loop_rounds lf h
  | rangeFunc f ps x y ihx ihy => intro be base st r h; exact (bad_run h).elim
  | exit id => intro be base st r h; cases Option.some.inj h; exact GoesW.stay fun Q a w h => wp_exit h
  | scope x ih => intro be base st r h; exact (bad_run h).elim
  | label l => intro be base st r h; exact (bad_run h).elim
  | goto l => intro be base st r h; exact (bad_run h).elim
  | ret => intro be base st r h; cases Option.some.inj h; exact GoesW.stay fun Q a w h => wp_ret h
  | refuse s => intro be base st r h; exact (bad_run h).elim

end
end Go.Sx
