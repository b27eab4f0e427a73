/- The symbolic evaluator's soundness, third part: one operation at a time. Conditions: none. -/
import Derived.Test.YtokifhkjembekaaSxE
import Derived.Laws.IdiomCopy
import Derived.Laws.StructEq
import Derived.Laws.BitsLemmas
namespace Go.Sx

structure EnvOK (φ : Phi) (V : Nat → Prop) (nt : Nat) (env : Env) (a : Act) : Prop where
  size : a.tmps.size = nt
  nd : a.defers = []
  val : ∀ t v, env.get t = .val v → a.tmps[t]? = some (conc φ v) ∧ v.ok V
  und : ∀ t, env.get t = .undef → a.tmps.getD t undef = undef

theorem get_nil (t : Nat) : Env.get [] t = .undef := rfl
theorem get_cons (u : Nat) (v : EV) (env : Env) (t : Nat) : Env.get ((u, v) :: env) t = if u = t then v else Env.get env t := by
  show (Bool.rec (motive := fun _ => EV) (Env.get env t) v (Nat.beq u t)) = _
  rw [beq_if]

section
variable {P : Program} {φ φ' : Phi} {V V' : Nat → Prop} {nt : Nat} {env : Env} {a : Act} {L : Log} {w : World}

theorem EnvOK.ev (h : EnvOK φ V nt env a) {x : Operand} {v : AV} (hx : ev env x = some v) : a.eval x = conc φ v ∧ v.ok V := by
  cases x with
  | tmp t =>
    simp only [Sx.ev, Env.val?] at hx
    cases hg : env.get t with
    | val u =>
      rw [hg] at hx; cases hx
      obtain ⟨h1, h2⟩ := h.val t v hg
      refine ⟨?_, h2⟩
      simp [Act.eval, Array.getD_eq_getD_getElem?, h1]
    | undef => rw [hg] at hx; cases hx
    | unk => rw [hg] at hx; cases hx
  | const c =>
    simp only [Sx.ev, Option.some.injEq] at hx
    subst hx
    exact ⟨(conc_of φ false c).symm, ok_of V false c⟩
  | global g => cases hx
  | func f =>
    simp only [Sx.ev, Option.some.injEq] at hx
    subst hx
    exact ⟨rfl, trivial, trivial⟩

theorem EnvOK.mono (h : EnvOK φ V nt env a) (hag : ∀ i, V i → φ' i = φ i) (hV : ∀ i, V i → V' i) : EnvOK φ' V' nt env a :=
  ⟨h.size, h.nd, fun t v hg => by obtain ⟨h1, h2⟩ := h.val t v hg; exact ⟨by rw [conc_agree hag v h2]; exact h1, ok_mono hV v h2⟩, h.und⟩

/-- What an entry of the environment says of a value. -/
def EVok (φ : Phi) (V : Nat → Prop) (e : EV) (x : Value) : Prop :=
  match e with
  | .val v => x = conc φ v ∧ v.ok V
  | .undef => x = undef
  | .unk => True

theorem EnvOK.put (h : EnvOK φ V nt env a) {dst : Option Tmp} (hd : ∀ d, dst = some d → d < nt) {e : EV} {x : Value} (he : EVok φ V e x) : EnvOK φ V nt (put env dst e) (a.put dst x) := by
  cases dst with
  | none => exact h
  | some d =>
    have hlt := hd d rfl
    refine ⟨by simp [Act.put, h.size], h.nd, fun t v hg => ?_, fun t hg => ?_⟩
    · rw [Sx.put, get_cons] at hg
      by_cases hdt : d = t
      · subst hdt
        rw [if_pos rfl] at hg
        subst hg
        simp only [EVok] at he
        refine ⟨?_, he.2⟩
        rw [← he.1]
        simp [Act.put, h.size, hlt]
      · rw [if_neg hdt] at hg
        obtain ⟨h1, h2⟩ := h.val t v hg
        refine ⟨?_, h2⟩
        simp only [Act.put]
        rw [Array.getElem?_setIfInBounds_ne hdt]; exact h1
    · rw [Sx.put, get_cons] at hg
      by_cases hdt : d = t
      · subst hdt
        rw [if_pos rfl] at hg
        subst hg
        simp only [EVok] at he
        simp [Act.put, h.size, hlt, he]
      · rw [if_neg hdt] at hg
        have := h.und t hg
        simp only [Act.put, Array.getD_eq_getD_getElem?] at this ⊢
        rw [Array.getElem?_setIfInBounds_ne hdt]; exact this

theorem onEv_run {β : Type} {x : Operand} {s : String} {f : AV → T β} {y : β} (h : (onEv env x (.bad s) f).run = some y) : ∃ v, ev env x = some v ∧ (f v).run = some y := by
  cases x with
  | tmp t =>
    simp only [onEv] at h
    cases hg : env.get t with
    | val v => rw [hg] at h; exact ⟨v, by simp [Sx.ev, Env.val?, hg], h⟩
    | undef => rw [hg] at h; cases h
    | unk => rw [hg] at h; cases h
  | const c => exact ⟨_, rfl, h⟩
  | global g => cases h
  | func g => exact ⟨_, rfl, h⟩

theorem onInt_run {β : Type} {v : AV} {d : T β} {f : Bool → IntKind → Int → T β} {y : β} (h : (v.onInt d f).run = some y) :
    (∃ s k n, v = tag s (.int k n) ∧ (f s k n).run = some y) ∨ d.run = some y := by
  cases v with
  | c x => cases x <;> first | exact .inr h | exact .inl ⟨false, _, _, rfl, h⟩
  | s x => cases x <;> first | exact .inr h | exact .inl ⟨true, _, _, rfl, h⟩
  | _ => exact .inr h
theorem onStr_run {β : Type} {v : AV} {d : T β} {f : Bool → ByteArray → T β} {y : β} (h : (v.onStr d f).run = some y) :
    (∃ s n, v = tag s (.string n) ∧ (f s n).run = some y) ∨ d.run = some y := by
  cases v with
  | c x => cases x <;> first | exact .inr h | exact .inl ⟨false, _, rfl, h⟩
  | s x => cases x <;> first | exact .inr h | exact .inl ⟨true, _, rfl, h⟩
  | _ => exact .inr h
theorem onBool_run {β : Type} {v : AV} {d : T β} {f : Bool → Bool → T β} {y : β} (h : (v.onBool d f).run = some y) :
    (∃ s n, v = tag s (.bool n) ∧ (f s n).run = some y) ∨ d.run = some y := by
  cases v with
  | c x => cases x <;> first | exact .inr h | exact .inl ⟨false, _, rfl, h⟩
  | s x => cases x <;> first | exact .inr h | exact .inl ⟨true, _, rfl, h⟩
  | _ => exact .inr h
theorem onAgg_run {β : Type} {v : AV} {d : T β} {f : List AV → T β} {y : β} (h : (v.onAgg d f).run = some y) :
    (∃ cs, v = .agg cs ∧ (f cs).run = some y) ∨ d.run = some y := by
  cases v <;> first | exact .inr h | exact .inl ⟨_, rfl, h⟩
theorem onPtr_run {β : Type} {v : AV} {d : T β} {f : Nat → Nat → T β} {y : β} (h : (v.onPtr d f).run = some y) :
    (∃ i o, v = .ptr i o ∧ (f i o).run = some y) ∨ d.run = some y := by
  cases v <;> first | exact .inr h | exact .inl ⟨_, _, rfl, h⟩
theorem onSlc_run {β : Type} {v : AV} {d : T β} {f : Nat → Nat → T β} {y : β} (h : (v.onSlc d f).run = some y) :
    (∃ i l, v = .slc i l ∧ (f i l).run = some y) ∨ d.run = some y := by
  cases v <;> first | exact .inr h | exact .inl ⟨_, _, rfl, h⟩
theorem bad_run {α : Type} {s : String} {y : α} (h : (T.bad s : T α).run = some y) : False := by cases h
theorem conc_tag (φ : Phi) (s : Bool) (x : Value) : conc φ (tag s x) = x := by cases s <;> rfl
theorem ok_tag (V : Nat → Prop) (s : Bool) (x : Value) : (tag s x).ok V := by cases s <;> trivial
theorem one_run {v : Option AV} {n : Nat} {y : Out} (h : (one v n).run = some y) : ∃ u, v = some u ∧ y = (some u, n, []) := by
  cases v with
  | none => cases h
  | some u => exact ⟨u, rfl, (Option.some.inj h).symm⟩

/-- What an operation's evaluation says of the operation. -/
def OpW (P : Program) (nt : Nat) (env : Env) (n : Nat) (L : Log) (o : Oper) (r : Out) : Prop :=
  n ≤ r.2.1 ∧ ∀ φ V a w K Q, Clear V n r.2.1 → EnvOK φ V nt env a → Sat φ V L w →
    (∀ φ' w' x, Step φ V L w φ' (Add V n r.2.1) (r.2.2 ++ L) w' → EVok φ' (Add V n r.2.1) (match r.1 with | some v => .val v | none => .undef) x → K (a.put o.dst x) w') → o.wp P a w K Q

/-- An operation that yields a value and turns nothing. -/
theorem OpW.quiet {n : Nat} {o : Oper} {v : AV} (h : ∀ φ V a w, EnvOK φ V nt env a → Sat φ V L w → (execOp a.eval o).run P w = .ok (.value (conc φ v)) w ∧ v.ok V) : OpW P nt env n L o (some v, n, []) := by
  refine ⟨Nat.le_refl _, fun φ V a w K Q _ he hs hK => ?_⟩
  obtain ⟨h1, h2⟩ := h φ V a w he hs
  unfold Oper.wp
  rw [h1]
  simp only [Add.same] at hK
  exact hK φ w _ (Step.refl hs) ⟨rfl, h2⟩

/-- An operation that yields a value, in another world. -/
theorem OpW.value {n n' : Nat} {o : Oper} {v : AV} {D : Log} (hn : n ≤ n') (h : ∀ φ V a w, Clear V n n' → EnvOK φ V nt env a → Sat φ V L w → ∃ φ' w', (execOp a.eval o).run P w = .ok (.value (conc φ' v)) w' ∧
    Step φ V L w φ' (Add V n n') (D ++ L) w' ∧ v.ok (Add V n n')) : OpW P nt env n L o (some v, n', D) := by
  refine ⟨hn, fun φ V a w K Q hc he hs hK => ?_⟩
  obtain ⟨φ', w', h1, h2, h3⟩ := h φ V a w hc he hs
  unfold Oper.wp
  rw [h1]
  exact hK φ' w' _ h2 ⟨rfl, h3⟩

theorem pureRun_run {α : Type} : ∀ (s : Sem α) {x : α}, pureRun P s = some x → ∀ w, s.run P w = .ok x w
  | .pure y, x, h, w => by simp only [pureRun, Option.some.injEq] at h; subst h; rfl
  | .program k, x, h, w => by simp only [pureRun] at h; exact pureRun_run (k P) h w
  | .load .., x, h, w => by simp [pureRun] at h
  | .store .., x, h, w => by simp [pureRun] at h
  | .new .., x, h, w => by simp [pureRun] at h
  | .shape .., x, h, w => by simp [pureRun] at h
  | .freeze .., x, h, w => by simp [pureRun] at h
  | .frozen .., x, h, w => by simp [pureRun] at h
  | .getObj .., x, h, w => by simp [pureRun] at h
  | .setObj .., x, h, w => by simp [pureRun] at h
  | .choose .., x, h, w => by simp [pureRun] at h
  | .sys .., x, h, w => by simp [pureRun] at h
  | .mark .., x, h, w => by simp [pureRun] at h
  | .halt .., x, h, w => by simp [pureRun] at h

theorem evAll_spec : ∀ {xs : List Operand} {vs : List AV}, evAll env xs = some vs → vs.length = xs.length ∧ ∀ (j : Nat) (x : Operand), xs[j]? = some x → ∃ v, vs[j]? = some v ∧ ev env x = some v
  | [], vs, h => by
    have : vs = [] := by simpa [evAll] using h.symm
    subst this; simp
  | x :: r, vs, h => by
    have h' : obind (ev env x) (fun v => obind (evAll env r) fun l => some (v :: l)) = some vs := h
    simp only [obind_eq, Option.bind_eq_some_iff] at h'
    obtain ⟨v, hv, l, hl, he⟩ := h'
    cases he
    obtain ⟨h1, h2⟩ := evAll_spec hl
    refine ⟨by simp [h1], fun j y hy => ?_⟩
    cases j with
    | zero => simp at hy; subst hy; exact ⟨v, by simp, hv⟩
    | succ j => simpa using h2 j y (by simpa using hy)

theorem evAll_map (he : EnvOK φ V nt env a) {xs : List Operand} {vs : List AV} (h : evAll env xs = some vs) : xs.map a.eval = concs φ vs ∧ AV.oks V vs := by
  obtain ⟨h1, h2⟩ := evAll_spec h
  refine ⟨?_, ?_⟩
  · rw [concs_eq]
    apply List.ext_getElem?
    intro j
    rw [List.getElem?_map, List.getElem?_map]
    cases hx : xs[j]? with
    | none =>
      have : vs[j]? = none := by rw [List.getElem?_eq_none_iff] at hx ⊢; omega
      rw [this]; rfl
    | some x =>
      obtain ⟨v, hv, hev⟩ := h2 j x hx
      rw [hv]
      simp [(he.ev hev).1]
  · rw [oks_iff]
    intro v hv
    obtain ⟨j, hj⟩ := List.getElem?_of_mem hv
    have hlt : j < vs.length := (List.getElem?_eq_some_iff.1 hj).1
    have hx : xs[j]? = some xs[j] := List.getElem?_eq_getElem (by omega)
    obtain ⟨u, hu, hev⟩ := h2 j _ hx
    rw [hj] at hu; cases hu
    exact (he.ev hev).2

theorem vals_mem : ∀ {vs : List AV} {xs : List Value}, AV.vals vs = some xs → ∀ v ∈ vs, ∃ x, v.val = some x
  | [], _, _, v, hv => by cases hv
  | u :: r, xs, h, v, hv => by
    simp only [AV.vals, Option.bind_eq_some_iff] at h
    obtain ⟨p, hp, q, hq, _⟩ := h
    cases hv with
    | head => exact ⟨p, hp⟩
    | tail _ hv => exact vals_mem hq v hv

theorem OpW.pure {n : Nat} {o : Oper} {y : Out} (hs : ∀ cs b, o.op ≠ .select cs b) (h : (one (evPure P env o) n).run = some y) : OpW P nt env n L o y := by
  obtain ⟨u, hu, rfl⟩ := one_run h
  simp only [evPure, obind_eq, Option.bind_eq_some_iff] at hu
  obtain ⟨vs, hvs, xs, hxs, hu⟩ := hu
  split at hu
  · rename_i v hr
    cases hu
    refine OpW.quiet fun φ V a w he _ => ⟨?_, ok_of _ _ _⟩
    rw [conc_of]
    have := pureRun_run _ hr w
    rw [← this]
    congr 1
    refine execOp_congr o hs fun x hx => ?_
    obtain ⟨j, hj⟩ := List.getElem?_of_mem (Array.mem_toList_iff.2 hx)
    obtain ⟨v', hv', hev⟩ := (evAll_spec hvs).2 j x hj
    obtain ⟨p, hp⟩ := vals_mem hxs v' (List.mem_of_getElem? hv')
    rw [(he.ev hev).1, hev, Option.bind_some, hp, Option.getD_some]
    exact val_conc v' p hp
  · cases hu

theorem OpW.move {n : Nat} {o : Oper} {x : Operand} {y : Out} (ho : o.op = .move x ∨ o.op = .assign x) (h : (one (ev env x) n).run = some y) : OpW P nt env n L o y := by
  obtain ⟨u, hu, rfl⟩ := one_run h
  refine OpW.quiet fun φ V a w he _ => ?_
  obtain ⟨h1, h2⟩ := he.ev hu
  refine ⟨?_, h2⟩
  rcases ho with ho | ho <;> simp [execOp, ho, h1]

end
end Go.Sx
