/- The symbolic evaluator's soundness, sixth part: sums and comparisons, conversions, structs and slices that are built. Conditions: none. -/
import Derived.Test.YtokifhkjembekaaSxH
namespace Go.Sx
section
variable {P : Program} {φ φ' : Phi} {V V' : Nat → Prop} {nt : Nat} {env : Env} {a : Act} {L : Log} {w : World}

theorem wrapC_eq (k : IntKind) (n : Int) : wrapC k n = k.wrap n := by
  cases n with
  | negSucc m => rfl
  | ofNat m =>
    show (Bool.rec (motive := fun _ => Int) (k.wrap (Int.ofNat m)) (Int.ofNat m) (Nat.blt m 128)) = _
    cases hb : Nat.blt m 128 with
    | false => rfl
    | true =>
      have hlt : m < 128 := by simpa [Nat.blt_eq] using hb
      show Int.ofNat m = k.wrap (Int.ofNat m)
      have hc : (Int.ofNat m) = (m : Int) := rfl
      rw [hc]
      cases k <;> simp [IntKind.wrap, IntKind.bits, IntKind.signed] <;> omega

theorem wrapT_eq (s : Bool) (k : IntKind) (n : Int) : wrapT s k n = k.wrap n := by
  cases s
  · exact wrapC_eq k n
  · rfl

theorem run_eqGuard_int (op : BinOp) (t : TypeId) (x y : Operand) (k j : IntKind) (p q : Int) (w : World) : (eqGuard op t x y (.int k p) (.int j q)).run P w = .ok () w := by
  cases op <;> rfl
theorem run_eqGuard_string (op : BinOp) (t : TypeId) (x y : Operand) (p q : ByteArray) (w : World) : (eqGuard op t x y (.string p) (.string q)).run P w = .ok () w := by
  cases op <;> rfl

theorem binInt_run {s : Bool} {op : BinOp} {k : IntKind} {p q : Int} {v : Value} (h : binInt s op k p q = some v) (t : TypeId) (w : World) : (binOp op t (.int k p) (.int k q)).run P w = .ok v w := by
  cases op <;> simp only [binInt, wrapT_eq] at h
  all_goals first
    | (cases h; simp [binOp, Op.intArith, Op.intCmp, Op.intBits]; done)
    | (cases hq : decide (q = 0) with
       | true => rw [hq] at h; cases h
       | false =>
         rw [hq] at h
         cases h
         have hq' : ¬ q = 0 := by simpa using hq
         simp [binOp, Op.intDiv, hq'])
    | cases h

theorem shInt_run {op : BinOp} {k j : IntKind} {p q : Int} {v : Value} (h : shInt op k p q = some v) (t : TypeId) (w : World) : (binOp op t (.int k p) (.int j q)).run P w = .ok v w := by
  cases op <;> simp only [shInt] at h
  all_goals first
    | (cases hq : decide (q < 0) with
       | true => rw [hq] at h; cases h
       | false =>
         rw [hq] at h
         cases h
         have hq' : ¬ q < 0 := by simpa using hq
         simp [binOp, Op.shift, hq'])
    | cases h

theorem binStr_run {op : BinOp} {p q : ByteArray} {v : Value} (h : binStr op p q = some v) (t : TypeId) (w : World) : (binOp op t (.string p) (.string q)).run P w = .ok v w := by
  cases op <;> simp only [binStr] at h
  all_goals first
    | (cases h; simp [binOp, Op.stringOp, ByteArray.toList_eq]; done)
    | cases h

def TB.val : TB → Bool
  | .c b => b
  | .s b => b

theorem TB.conc_av (b : TB) (φ : Phi) : conc φ b.av = .bool b.val := by cases b <;> rfl
theorem TB.ok_av (b : TB) (V : Nat → Prop) : b.av.ok V := by cases b <;> trivial
theorem TB.and_val (a b : TB) : (a.and b).val = (a.val && b.val) := by
  cases a with
  | c x => cases x <;> cases b <;> simp [TB.and, TB.val]
  | s x => cases b with
    | c y => cases y <;> simp [TB.and, TB.val]
    | s y => rfl
theorem TB.not_val (a : TB) : a.not.val = !a.val := by cases a <;> rfl

theorem TB.mk_val (s b : Bool) : (TB.mk s b).val = b := by cases s <;> rfl

theorem oInt {β : Type} {v : AV} {f : Bool → IntKind → Int → Option β} {y : β} (h : v.onInt none f = some y) : ∃ s k n, v = tag s (.int k n) ∧ f s k n = some y := by
  cases v with
  | c x => cases x <;> first | (exact ⟨false, _, _, rfl, h⟩) | cases h
  | s x => cases x <;> first | (exact ⟨true, _, _, rfl, h⟩) | cases h
  | _ => cases h
theorem oBool {β : Type} {v : AV} {f : Bool → Bool → Option β} {y : β} (h : v.onBool none f = some y) : ∃ s n, v = tag s (.bool n) ∧ f s n = some y := by
  cases v with
  | c x => cases x <;> first | (exact ⟨false, _, rfl, h⟩) | cases h
  | s x => cases x <;> first | (exact ⟨true, _, rfl, h⟩) | cases h
  | _ => cases h
theorem oStr {β : Type} {v : AV} {f : Bool → ByteArray → Option β} {y : β} (h : v.onStr none f = some y) : ∃ s n, v = tag s (.string n) ∧ f s n = some y := by
  cases v with
  | c x => cases x <;> first | (exact ⟨false, _, rfl, h⟩) | cases h
  | s x => cases x <;> first | (exact ⟨true, _, rfl, h⟩) | cases h
  | _ => cases h

theorem eqAt_run {x y : AV} {b : TB} {d : TypeDesc} (h : eqAt d x y = some b) {t : TypeId} (hu : P.underlying t = some d) (φ : Phi) (n : Nat) (w : World) :
    (Op.equalIn (n + 1) t (conc φ x) (conc φ y)).run P w = .ok b.val w := by
  unfold eqAt at h
  split at h
  · replace h := oBool h
    obtain ⟨s, p, rfl, h⟩ := h
    replace h := oBool h
    obtain ⟨r, q, rfl, h⟩ := h
    cases h
    rw [conc_tag, conc_tag, TB.mk_val]
    exact run_equalIn_bool' w n t p q hu
  · replace h := oInt h
    obtain ⟨s, k, p, rfl, h⟩ := h
    replace h := oInt h
    obtain ⟨r, j, q, rfl, h⟩ := h
    cases hk : keq k j with
    | false => rw [hk] at h; cases h
    | true =>
      rw [hk] at h
      cases h
      have := keq_eq hk; subst this
      rw [conc_tag, conc_tag, TB.mk_val]
      exact run_equalIn_int w n t k _ p q hu
  · replace h := oStr h
    obtain ⟨s, p, rfl, h⟩ := h
    replace h := oStr h
    obtain ⟨r, q, rfl, h⟩ := h
    cases h
    rw [conc_tag, conc_tag, TB.mk_val, ← ByteArray.toList_eq, ← ByteArray.toList_eq]
    exact run_equalIn_string w n t p q hu
  · cases h

theorem eqAt_desc {x y : AV} {b : TB} {d : TypeDesc} (h : eqAt d x y = some b) : d = .bool ∨ (∃ k, d = .int k) ∨ d = .string := by
  unfold eqAt at h
  split at h
  · exact .inl rfl
  · exact .inr (.inl ⟨_, rfl⟩)
  · exact .inr (.inr rfl)
  · cases h

theorem run_part_one {t : TypeId} {d : TypeDesc} (hu : P.underlying t = some d) (hd : d = .bool ∨ (∃ k, d = .int k) ∨ d = .string) {cs : List AV} {off : Nat} {x : AV} (hx : cs[off]? = some x) (φ : Phi) (w : World) :
    (part t (concs φ cs).toArray off).run P w = .ok (conc φ x) w := by
  have hag : agg? P t = some false := by
    unfold agg?
    rw [hu]
    rcases hd with rfl | ⟨k, rfl⟩ | rfl <;> rfl
  have hagg := run_agg hag w
  simp [part, hagg, concs_eq, hx]

theorem eqPart_run {xs ys : List AV} {f : Field} {d : TypeDesc} {b : TB} (h : eqPart xs ys f d = some b) (hu : P.underlying f.type = some d) (φ : Phi) :
    ∃ p q, (∀ w, (part f.type (concs φ xs).toArray f.offset).run P w = .ok p w) ∧ (∀ w, (part f.type (concs φ ys).toArray f.offset).run P w = .ok q w) ∧ ∀ n w, (Op.equalIn (n + 1) f.type p q).run P w = .ok b.val w := by
  unfold eqPart at h
  rw [obind_eq] at h
  obtain ⟨x, hx, h⟩ := Option.bind_eq_some_iff.1 h
  rw [obind_eq] at h
  obtain ⟨y, hy, h⟩ := Option.bind_eq_some_iff.1 h
  rw [nthL_eq] at hx hy
  have hd := eqAt_desc h
  exact ⟨conc φ x, conc φ y, fun w => run_part_one hu hd hx φ w, fun w => run_part_one hu hd hy φ w, fun n w => eqAt_run h hu φ n w⟩

theorem run_eqFields_cons {n : Nat} {xs ys : Array Value} {f : Field} {fs : List Field} {p q : Value} {r s : Bool} {w : World} (hn : (f.name == "_") = false)
    (hp : (part f.type xs f.offset).run P w = .ok p w) (hq : (part f.type ys f.offset).run P w = .ok q w) (he : (Op.equalIn n f.type p q).run P w = .ok r w)
    (hr : (Op.eqFields n xs ys fs).run P w = .ok s w) : (Op.eqFields n xs ys (f :: fs)).run P w = .ok (r && s) w := by
  have hn' : f.name ≠ "_" := by simpa using hn
  rw [Op.eqFields]
  simp only [if_pos hn', Sem.run_bind, hp, hq, he, Result.andThen_ok]
  cases r
  · simp
  · simpa using hr

theorem eqFlat_run {xs ys : List AV} (φ : Phi) (n : Nat) (w : World) : ∀ {fs : List Field} {b : TB}, eqFlat P xs ys fs = some b → (Op.eqFields (n + 1) (concs φ xs).toArray (concs φ ys).toArray fs).run P w = .ok b.val w
  | [], b, h => by cases h; rfl
  | f :: fs, b, h => by
    unfold eqFlat at h
    cases hn : f.name == "_" with
    | true =>
      rw [hn] at h
      have hn' : ¬ (f.name ≠ "_") := by simpa using hn
      rw [Op.eqFields, if_neg hn']
      exact eqFlat_run φ n w h
    | false =>
      rw [hn] at h
      simp only [cond_false, obind_eq, Option.bind_eq_some_iff] at h
      obtain ⟨d, hd, e, he, r, hr, hb⟩ := h
      cases hb
      obtain ⟨p, q, h1, h2, h3⟩ := eqPart_run he hd φ
      rw [TB.and_val]
      exact run_eqFields_cons hn (h1 w) (h2 w) (h3 n w) (eqFlat_run φ n w hr)

theorem eqFieldsA_run {xs ys : List AV} (φ : Phi) (n : Nat) (w : World) : ∀ {fs : List Field} {b : TB}, eqFieldsA P xs ys fs = some b → (Op.eqFields (n + 2) (concs φ xs).toArray (concs φ ys).toArray fs).run P w = .ok b.val w
  | [], b, h => by cases h; rfl
  | f :: fs, b, h => by
    unfold eqFieldsA at h
    cases hn : f.name == "_" with
    | true =>
      rw [hn] at h
      have hn' : ¬ (f.name ≠ "_") := by simpa using hn
      rw [Op.eqFields, if_neg hn']
      exact eqFieldsA_run φ n w h
    | false =>
      rw [hn] at h
      simp only [cond_false, obind_eq, Option.bind_eq_some_iff] at h
      obtain ⟨e, he, r, hr, hb⟩ := h
      cases hb
      rw [TB.and_val]
      have hrest := eqFieldsA_run φ n w hr
      split at he
      · rename_i gs hg
        unfold eqSub at he
        cases hst : P.stoodInHeld f.type with
        | true => rw [hst] at he; cases he
        | false =>
          rw [hst] at he
          simp only [cond_false, obind_eq, Option.bind_eq_some_iff] at he
          obtain ⟨k, hk, he⟩ := he
          have hag : agg? P f.type = some true := by unfold agg?; rw [hg]
          have hagg := run_agg hag w
          have hsz := run_size hk w
          have hfs : P.underlying f.type = some (.struct (P.fieldsOf f.type)) := by unfold Program.fieldsOf; rw [hg]
          have hfe : P.fieldsOf f.type = gs := by unfold Program.fieldsOf; rw [hg]
          have hp : ∀ zs : List AV, (part f.type (concs φ zs).toArray f.offset).run P w = .ok (.agg (concs φ ((zs.drop f.offset).take k)).toArray) w := fun zs => by
            simp [part, hagg, hsz, concs_eq, List.map_take, List.map_drop]
          refine run_eqFields_cons hn (hp xs) (hp ys) ?_ hrest
          rw [run_equalIn_agg w (n + 1) f.type _ _ hfs hst, hfe]
          exact eqFlat_run φ n w he
      · rename_i d hd hg
        obtain ⟨p, q, h1, h2, h3⟩ := eqPart_run he hg φ
        exact run_eqFields_cons hn (h1 w) (h2 w) (h3 (n + 1) w) hrest
      · cases he

theorem eqAgg_run {t : TypeId} {xs ys : List AV} {b : TB} (h : eqAgg P t xs ys = some b) (φ : Phi) (w : World) :
    (Op.equalIn 10000 t (.agg (concs φ xs).toArray) (.agg (concs φ ys).toArray)).run P w = .ok b.val w ∧ P.eqGuardType P.depth t = false := by
  unfold eqAgg at h
  split at h
  · rename_i fs hu
    cases hst : (P.stoodInHeld t || P.eqGuardType P.depth t) with
    | true => rw [hst] at h; cases h
    | false =>
      rw [hst] at h
      simp only [cond_false] at h
      simp only [Bool.or_eq_false_iff] at hst
      have hfs : P.underlying t = some (.struct (P.fieldsOf t)) := by unfold Program.fieldsOf; rw [hu]
      have hfe : P.fieldsOf t = fs := by unfold Program.fieldsOf; rw [hu]
      refine ⟨?_, hst.2⟩
      rw [run_equalIn_agg w 9999 t _ _ hfs hst.1, hfe]
      exact eqFieldsA_run φ 9997 w h
  · cases h

theorem OpW.bin {n : Nat} {o : Oper} {op : BinOp} {t u : TypeId} {x y : Operand} {r : Out} (ho : o.op = .binOp op t x y u) (h : (evBin P env n o op t x y).run = some r) : OpW P nt env n L o r := by
  have hp : ∀ {r : Out}, (one (evPure P env o) n).run = some r → OpW P nt env n L o r := fun h => OpW.pure (fun cs b => by rw [ho]; simp) h
  replace h := onEv_run h
  obtain ⟨p, hpv, h⟩ := h
  replace h := onEv_run h
  obtain ⟨q, hqv, h⟩ := h
  replace h := onInt_run h
  rcases h with ⟨s, k, i, rfl, h⟩ | h
  · replace h := onInt_run h
    rcases h with ⟨s', k', j, rfl, h⟩ | h
    · cases hsh : BinOp.shifts op with
      | true =>
        rw [hsh] at h
        obtain ⟨v, hv, rfl⟩ := one_run h
        obtain ⟨z, hz, rfl⟩ := Option.map_eq_some_iff.1 hv
        refine OpW.quiet fun φ V a w he hs => ⟨?_, ok_tag _ _ _⟩
        have h1 := (he.ev hpv).1
        have h2 := (he.ev hqv).1
        rw [conc_tag] at h1 h2
        simp [execOp, ho, h1, h2, run_eqGuard_int, shInt_run hz, conc_tag]
      | false =>
        rw [hsh] at h
        simp only [cond_false] at h
        cases hk : keq k k' with
        | false => rw [hk] at h; exact (bad_run h).elim
        | true =>
          rw [hk] at h
          have := keq_eq hk; subst this
          obtain ⟨v, hv, rfl⟩ := one_run h
          obtain ⟨z, hz, rfl⟩ := Option.map_eq_some_iff.1 hv
          refine OpW.quiet fun φ V a w he hs => ⟨?_, ok_tag _ _ _⟩
          have h1 := (he.ev hpv).1
          have h2 := (he.ev hqv).1
          rw [conc_tag] at h1 h2
          simp [execOp, ho, h1, h2, run_eqGuard_int, binInt_run hz, conc_tag]
    · exact (bad_run h).elim
  · replace h := onAgg_run h
    rcases h with ⟨xs, rfl, h⟩ | h
    · replace h := onAgg_run h
      rcases h with ⟨ys, rfl, h⟩ | h
      · cases hq : BinOp.eqs op with
        | false => rw [hq] at h; exact (bad_run h).elim
        | true =>
          rw [hq] at h
          obtain ⟨v, hv, rfl⟩ := one_run h
          obtain ⟨e, he', rfl⟩ := Option.map_eq_some_iff.1 hv
          refine OpW.quiet fun φ V a w he hs => ?_
          have h1 := (he.ev hpv).1
          have h2 := (he.ev hqv).1
          simp only [conc] at h1 h2
          obtain ⟨g1, g2⟩ := eqAgg_run he' φ w
          cases op <;> first
            | exact absurd hq (by decide)
            | (change (execOp a.eval o).run P w = .ok (.value (conc φ e.av)) w ∧ e.av.ok V
               refine ⟨?_, TB.ok_av _ _⟩
               rw [TB.conc_av]
               simp [execOp, ho, h1, h2, run_eqGuard_agg w _ t x y _ _ g2, run_eql_struct, g1]
               done)
            | (change (execOp a.eval o).run P w = .ok (.value (conc φ e.not.av)) w ∧ e.not.av.ok V
               refine ⟨?_, TB.ok_av _ _⟩
               rw [TB.conc_av, TB.not_val]
               simp [execOp, ho, h1, h2, run_eqGuard_agg w _ t x y _ _ g2, run_neq_struct, g1])
      · exact (bad_run h).elim
    · replace h := onStr_run h
      rcases h with ⟨s, b1, rfl, h⟩ | h
      · replace h := onStr_run h
        rcases h with ⟨s', b2, rfl, h⟩ | h
        · split at h
          · rename_i v hv
            cases Option.some.inj h
            refine OpW.quiet fun φ V a w he hs => ⟨?_, ok_tag _ _ _⟩
            have h1 := (he.ev hpv).1
            have h2 := (he.ev hqv).1
            rw [conc_tag] at h1 h2
            simp [execOp, ho, h1, h2, run_eqGuard_string, binStr_run hv, conc_tag]
          · exact hp h
        · exact (bad_run h).elim
      · exact hp h

theorem OpW.un {n : Nat} {o : Oper} {op : UnOp} {t : TypeId} {x : Operand} {r : Out} (ho : o.op = .unOp op t x) (h : (evUn P env n o op x).run = some r) : OpW P nt env n L o r := by
  have hp : ∀ {r : Out}, (one (evPure P env o) n).run = some r → OpW P nt env n L o r := fun h => OpW.pure (fun cs b => by rw [ho]; simp) h
  cases op <;> first
    | exact hp h
    | (replace h := onEv_run h
       obtain ⟨p, hpv, h⟩ := h
       replace h := onBool_run h
       rcases h with ⟨s, b, rfl, h⟩ | h
       · cases Option.some.inj h
         refine OpW.quiet fun φ V a w he hs => ⟨?_, ok_tag _ _ _⟩
         have h1 := (he.ev hpv).1
         rw [conc_tag] at h1
         simp [execOp, ho, h1, Op.unary, conc_tag]
       · exact (bad_run h).elim)

end
end Go.Sx
