/- The symbolic evaluator's soundness, twelfth part: bodies and calls. Conditions: none. -/
import Derived.Test.YtokifhkjembekaaSxN
namespace Go.Sx
section
variable {P : Program} {nt : Nat} {φ : Phi} {V : Nat → Prop} {env : Env} {a : Act} {L : Log} {w : World}

def resOne (tmps : Array Value) : ResultVar → Sem Value
  | .tmp t => pure (tmps.getD t undef)
  | .cell a t => do loadVar t (← asAddr (tmps.getD a undef))

theorem getD_val (he : EnvOK φ V nt env a) {t : Nat} {v : AV} (hv : env.val? t = some v) : a.tmps.getD t undef = conc φ v ∧ v.ok V := he.ev (x := .tmp t) hv

theorem resA_spec (he : EnvOK φ V nt env a) (hs : Sat φ V L w) : ∀ {rs : List ResultVar} {l : List AV}, resA P L env rs = some l →
    (rs.mapM (resOne a.tmps)).run P w = .ok (concs φ l) w ∧ AV.oks V l ∧ l.length = rs.length
  | [], l, h => by cases h; exact ⟨rfl, trivial, rfl⟩
  | .tmp t :: rs, l, h => by
    simp only [resA, Option.bind_eq_some_iff] at h
    obtain ⟨v, hv, l', hl, h⟩ := h
    cases h
    obtain ⟨h1, h2⟩ := getD_val he hv
    obtain ⟨k1, k2, k3⟩ := resA_spec he hs hl
    refine ⟨?_, ⟨h2, k2⟩, by simp [k3]⟩
    simp [List.mapM_cons, resOne, k1, h1, concs]
  | .cell t ty :: rs, l, h => by
    simp only [resA, Option.bind_eq_some_iff] at h
    obtain ⟨v, hv, l', hl, h⟩ := h
    cases h
    obtain ⟨k1, k2, k3⟩ := resA_spec he hs hl
    split at hv
    · rename_i i off hp
      obtain ⟨h1, h2⟩ := getD_val he hp
      have hld : loadA P L ty i off = some v := by
        unfold loadA
        split at hv
        · rename_i hb; rw [hb]; exact hv
        · rename_i hb; rw [hb]; exact hv
        · cases hv
      obtain ⟨g1, g2⟩ := load_sound hs hld
      refine ⟨?_, ⟨g2, k2⟩, by simp [k3]⟩
      simp [List.mapM_cons, resOne, k1, h1, concs, conc, asAddr, g1]
    · cases hv

theorem resV_spec (he : EnvOK φ V nt env a) (hs : Sat φ V L w) {fn : Func} {v : AV} (h : resV P L env fn.results.toList = some v) : (results fn a.tmps).run P w = .ok (conc φ v) w ∧ v.ok V := by
  unfold resV at h
  obtain ⟨l, hl, rfl⟩ := Option.map_eq_some_iff.1 h
  obtain ⟨h1, h2, h3⟩ := resA_spec he hs hl
  have hm : (fn.results.mapM (resOne a.tmps)).run P w = .ok (concs φ l).toArray w := by
    rw [Array.mapM_eq_mapM_toList]
    simp [h1]
  have hr : results fn a.tmps = (fn.results.mapM (resOne a.tmps)) >>= fun vs => pure (if h : vs.size = 1 then vs[0] else .tuple vs) := by
    unfold results
    congr 1
  rw [hr]
  simp only [Sem.run_bind, hm, Result.andThen_ok, Sem.run_pure]
  match l, h2 with
  | [], h2 => exact ⟨by simp [concs, conc], h2⟩
  | [u], h2 => exact ⟨by simp [concs], h2.1⟩
  | u :: x :: r, h2 => exact ⟨by simp [concs, conc], h2⟩

theorem argsEnv_get : ∀ (l : List AV) (k t : Nat), Env.get (argsEnv k l) t = if t < k then .undef else match l[t - k]? with | some v => .val v | none => .undef
  | [], k, t => by simp [argsEnv, get_nil]
  | v :: r, k, t => by
    rw [argsEnv, get_cons, argsEnv_get r (k + 1) t]
    by_cases e : k = t
    · subst e; simp
    · rw [if_neg e]
      by_cases hlt : t < k
      · rw [if_pos hlt, if_pos (by omega)]
      · rw [if_neg hlt, if_neg (by omega), show t - k = (t - (k + 1)) + 1 from by omega]
        rfl

theorem EnvOK.args {args : List AV} (hn : args.length ≤ nt) (hok : AV.oks V args) : EnvOK φ V nt (argsEnv 0 args) { tmps := (concs φ args).toArray ++ Array.replicate (nt - (concs φ args).toArray.size) undef, defers := [] } := by
  have hlen : (concs φ args).length = args.length := by simp [concs_eq]
  refine ⟨by simp [hlen]; omega, rfl, fun t v hg => ?_, fun t hg => ?_⟩
  · rw [argsEnv_get, if_neg (Nat.not_lt_zero t), Nat.sub_zero] at hg
    cases hl : args[t]? with
    | none => rw [hl] at hg; cases hg
    | some u =>
      rw [hl] at hg; cases hg
      have htlt : t < args.length := (List.getElem?_eq_some_iff.1 hl).1
      refine ⟨?_, oks_iff.1 hok _ (List.mem_of_getElem? hl)⟩
      rw [Array.getElem?_append_left (by simp [hlen, htlt])]
      simp [concs_eq, hl]
  · rw [argsEnv_get, if_neg (Nat.not_lt_zero t), Nat.sub_zero] at hg
    cases hl : args[t]? with
    | some u => rw [hl] at hg; cases hg
    | none =>
      have hge : args.length ≤ t := List.getElem?_eq_none_iff.1 hl
      rw [Array.getD_eq_getD_getElem?, Array.getElem?_append_right (by simp [hlen, hge])]
      rw [Array.getElem?_replicate]
      split <;> rfl

theorem merge_spec {f : FuncId} {args : List AV} {n : Nat} {t : T CR} {r : CR} (h : (merge n L t).run = some r) : ∃ r0, t.run = some r0 ∧ (CallW P f args n L r0 → CallW P f args n L r) := by
  cases t with
  | ret x => exact ⟨r, h, id⟩
  | bad s => cases h
  | br b x y =>
    unfold merge at h
    simp only [] at h
    split at h
    · rename_i st' heq
      cases Option.some.inj h
      simp only [obind_eq, Option.bind_eq_some_iff] at heq
      obtain ⟨ws, hws, v, hv, D, hD, h3⟩ := heq
      cases h3
      obtain ⟨⟨v0, n0, D0⟩, hr0⟩ := touchedT_run hws
      refine ⟨_, hr0, fun hX => ?_⟩
      obtain ⟨w1, w2⟩ := touchedT_spec hws
      obtain ⟨n1, D1, l, g1, g2, g3⟩ := w2 _ hr0
      cases g1
      obtain ⟨c1, c2, c3⟩ := mixCells_spec hr0 hD
      obtain ⟨u0, m1, m2⟩ := mixV_spec hv hr0
      cases m1
      have hmax := maxT_spec (f := fun r : CR => r.2.1) hr0
      obtain ⟨h1, h2⟩ := hX
      refine ⟨Nat.le_trans h1 hmax, fun φ V w Post hc ha hs hK => ?_⟩
      have hcl := hc.left hmax
      refine h2 φ V w Post hcl ha hs fun φ' w' st' hok => ?_
      have hst := Step.merge hs st' hmax hcl w1 g2 g3 c1 c2 c3
      have := hK φ' w' hst (ok_mono (fun i hi => hi.imp id fun h => ⟨h.1, Nat.lt_of_lt_of_le h.2 hmax⟩) _ (m2.2 _ hok))
      rw [m2.1] at this
      exact this
    · exact ⟨r, h, id⟩

theorem evBody_spec {call : CallF} (hcall : CallsOK P call) (hn : NoCount P) {draw : DrawF} (hdr : DrawOK P draw) {lf : Nat} {f : FuncId} {fn : Func} {c : Code} (hf : P.funcs[f]? = some fn) (hb : fn.body = some c)
    {args : List AV} {n : Nat} {r : CR} (h : (evBody P call draw lf fn c args n L).run = some r) : CallW P f args n L r := by
  unfold evBody at h
  obtain ⟨hle, h⟩ := bif_run h
  have hle' := Nat.le_of_ble_eq_true hle
  rw [lenL_eq] at hle'
  obtain ⟨⟨e, env, n', D⟩, h1, h⟩ := T.bind_run h
  obtain ⟨g1, g2⟩ := evCode_spec hcall hn hdr lf c [] L _ _ h1
  have key : ∀ (he : e ≠ .normal → e = .ret), (T.opt ((resV P (app D L) env fn.results.toList).map fun v => ((v, n', D) : CR))).run = some r → CallW P f args n L r := fun hex h => by
    replace h := T.opt_run h
    obtain ⟨v, hv, rfl⟩ := Option.map_eq_some_iff.1 h
    refine ⟨g1, fun φ V w Post hc ha hs hK => calls_of_wp hf hb ?_⟩
    refine g2 φ V _ w _ hc (by
      show EnvOK φ V fn.ntmps (app (argsEnv 0 args) []) _
      rw [app_eq, List.append_nil]
      exact EnvOK.args hle' ha) hs fun φ' a' w' st' he' => ?_
    have he'' : EnvOK φ' (Add V n n') fn.ntmps env a' := by
      have : app env ([] : Env) = env := by simp [app_eq]
      simp only [this] at he'
      exact he'
    obtain ⟨k1, k2⟩ := resV_spec he'' st'.sat hv
    have hpost : a'.defers = [] ∧ ∃ v, (results fn a'.tmps).run P w' = .ok v w' ∧ Post (.returned v) w' := by
      refine ⟨he''.nd, _, k1, hK φ' w' ?_ k2⟩
      rw [← app_eq]; exact st'
    cases e with
    | normal => exact hpost
    | ret => exact hpost
    | exit id => exact absurd (hex (by simp)) (by simp)
  cases e with
  | normal => exact key (fun h => absurd rfl h) h
  | ret => exact key (fun _ => rfl) h
  | exit id => exact (bad_run h).elim

def BookOK (P : Program) (Γ : Book) : Prop := ∀ f args n L t, Γ f args n L = some t → ∀ r, t.run = some r → CallW P f args n L r

def DrawsOK (P : Program) (draw : CallF → DrawF) : Prop := ∀ call, CallsOK P call → DrawOK P (draw call)

theorem evCall_spec {Γ : Book} {draw : CallF → DrawF} {lf : Nat} (hΓ : BookOK P Γ) (hdr : DrawsOK P draw) (hn : NoCount P) : ∀ k, CallsOK P (evCall P Γ draw lf k)
  | 0 => fun f args n L r h => (bad_run h).elim
  | k + 1 => fun f args n L r h => by
    have ih := evCall_spec (lf := lf) hΓ hdr hn k
    unfold evCall at h
    split at h
    · rename_i t ht; exact hΓ f args n L t ht r h
    · split at h
      · rename_i fn hf
        split at h
        · rename_i c hb
          obtain ⟨r0, h0, hm⟩ := merge_spec (P := P) (f := f) (args := args) h
          exact hm (evBody_spec ih hn (hdr _ ih) hf hb h0)
        · exact (bad_run h).elim
      · exact (bad_run h).elim

end
end Go.Sx
