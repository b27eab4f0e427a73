/- The symbolic evaluator's soundness, fifth part: choices, indexes, numbers, strings, conversions. Conditions: none. -/
import Derived.Test.YtokifhkjembekaaSxG
namespace Go.Sx
section
variable {P : Program} {φ φ' : Phi} {V V' : Nat → Prop} {nt : Nat} {env : Env} {a : Act} {L : Log} {w : World}

theorem keq_eq {k j : IntKind} (h : keq k j = true) : k = j := by
  cases k <;> cases j <;> first | rfl | (exact absurd h (by decide +kernel))

/-- v is x or y, as b says. -/
def Mixed (b : Bool) (x y v : AV) : Prop :=
  (b = true → (∀ φ, conc φ v = conc φ x) ∧ ∀ V, x.ok V → v.ok V) ∧ (b = false → (∀ φ, conc φ v = conc φ y) ∧ ∀ V, y.ok V → v.ok V)

theorem mix1_spec {b : Bool} {x y v : AV} (h : mix1 b x y = some v) : Mixed b x y v := by
  unfold mix1 at h
  split at h
  all_goals first
    | (cases h; cases b <;> (simp [Mixed, conc, AV.ok]; done))
    | skip
  · rename_i k x j y
    cases hk : keq k j with
    | false => rw [hk] at h; cases h
    | true =>
      have := keq_eq hk; subst this
      rw [hk] at h
      simp only [cond_true] at h
      by_cases hxy : x = y
      · subst hxy
        simp only [decide_true, cond_true, Option.some.injEq] at h
        subst h
        exact ⟨fun _ => ⟨fun _ => rfl, fun _ _ => trivial⟩, fun _ => ⟨fun _ => rfl, fun _ _ => trivial⟩⟩
      · simp only [hxy, decide_false, cond_false, Option.some.injEq] at h
        subst h
        cases b <;> simp [Mixed, conc, AV.ok]
  all_goals first
    | (rename_i k x j y
       cases hk : keq k j with
       | false => rw [hk] at h; cases h
       | true =>
         have := keq_eq hk; subst this
         rw [hk] at h
         simp only [cond_true, Option.some.injEq] at h
         subst h
         cases b <;> simp [Mixed, conc, AV.ok])
    | (rename_i i o j p
       cases hk : (Nat.beq i j && Nat.beq o p) with
       | false => rw [hk] at h; cases h
       | true =>
         rw [hk] at h
         simp only [Bool.and_eq_true] at hk
         have h1 := Nat.eq_of_beq_eq_true hk.1
         have h2 := Nat.eq_of_beq_eq_true hk.2
         subst h1; subst h2
         simp only [cond_true, Option.some.injEq] at h
         subst h
         exact ⟨fun _ => ⟨fun _ => rfl, fun _ h => h⟩, fun _ => ⟨fun _ => rfl, fun _ h => h⟩⟩)
    | cases h

theorem mixL_spec {b : Bool} : ∀ {xs ys vs : List AV}, mixL b xs ys = some vs →
    (b = true → (∀ φ, concs φ vs = concs φ xs) ∧ ∀ V, AV.oks V xs → AV.oks V vs) ∧ (b = false → (∀ φ, concs φ vs = concs φ ys) ∧ ∀ V, AV.oks V ys → AV.oks V vs)
  | [], [], vs, h => by cases h; exact ⟨fun _ => ⟨fun _ => rfl, fun _ h => h⟩, fun _ => ⟨fun _ => rfl, fun _ h => h⟩⟩
  | x :: r, y :: q, vs, h => by
    simp only [mixL, Option.bind_eq_some_iff] at h
    obtain ⟨v, hv, l, hl, he⟩ := h
    cases he
    obtain ⟨h1, h2⟩ := mix1_spec hv
    obtain ⟨h3, h4⟩ := mixL_spec hl
    refine ⟨fun e => ⟨fun φ => ?_, fun V hV => ?_⟩, fun e => ⟨fun φ => ?_, fun V hV => ?_⟩⟩
    · simp only [concs]; rw [(h1 e).1, (h3 e).1]
    · exact ⟨(h1 e).2 V hV.1, (h3 e).2 V hV.2⟩
    · simp only [concs]; rw [(h2 e).1, (h4 e).1]
    · exact ⟨(h2 e).2 V hV.1, (h4 e).2 V hV.2⟩
  | [], _ :: _, vs, h => by cases h
  | _ :: _, [], vs, h => by cases h

theorem mix_spec {b : Bool} {x y v : AV} (h : mix b x y = some v) : Mixed b x y v := by
  unfold mix at h
  split at h
  · obtain ⟨vs, hvs, rfl⟩ := Option.map_eq_some_iff.1 h
    obtain ⟨h1, h2⟩ := mixL_spec hvs
    exact ⟨fun e => ⟨fun φ => by simp only [conc]; rw [(h1 e).1], (h1 e).2⟩, fun e => ⟨fun φ => by simp only [conc]; rw [(h2 e).1], (h2 e).2⟩⟩
  · obtain ⟨vs, hvs, rfl⟩ := Option.map_eq_some_iff.1 h
    obtain ⟨h1, h2⟩ := mixL_spec hvs
    exact ⟨fun e => ⟨fun φ => by simp only [conc]; rw [(h1 e).1], (h1 e).2⟩, fun e => ⟨fun φ => by simp only [conc]; rw [(h2 e).1], (h2 e).2⟩⟩
  · exact mix1_spec h

theorem tag_bool {s : Bool} {x : Value} : (conc φ (tag s x)) = x := conc_tag φ s x

theorem OpW.pick {n : Nat} {o : Oper} {c x y : Operand} {r : Out} (ho : o.op = .pick c x y) (h : (evPick env n c x y).run = some r) : OpW P nt env n L o r := by
  obtain ⟨cv, hcv, h⟩ := onEv_run h
  rcases onBool_run h with ⟨s, t, rfl, h⟩ | h
  · cases s with
    | false =>
      obtain ⟨u, hu, rfl⟩ := one_run h
      refine OpW.quiet fun φ V a w he hs => ?_
      have hc := (he.ev hcv).1
      rw [conc_tag] at hc
      cases t with
      | true =>
        obtain ⟨h1, h2⟩ := he.ev (x := x) hu
        refine ⟨?_, h2⟩
        simp [execOp, ho, hc, asBool, h1]
      | false =>
        obtain ⟨h1, h2⟩ := he.ev (x := y) hu
        refine ⟨?_, h2⟩
        simp [execOp, ho, hc, asBool, h1]
    | true =>
      obtain ⟨u, hu, rfl⟩ := one_run h
      obtain ⟨p, hp, hu⟩ := Option.bind_eq_some_iff.1 hu
      obtain ⟨q, hq, hu⟩ := Option.bind_eq_some_iff.1 hu
      obtain ⟨m1, m2⟩ := mix_spec hu
      refine OpW.quiet fun φ V a w he hs => ?_
      have hc := (he.ev hcv).1
      rw [conc_tag] at hc
      obtain ⟨h1, h2⟩ := he.ev hp
      obtain ⟨h3, h4⟩ := he.ev hq
      cases t with
      | true =>
        obtain ⟨g1, g2⟩ := m1 rfl
        refine ⟨?_, g2 V h2⟩
        simp [execOp, ho, hc, asBool, h1, g1]
      | false =>
        obtain ⟨g1, g2⟩ := m2 rfl
        refine ⟨?_, g2 V h4⟩
        simp [execOp, ho, hc, asBool, h3, g1]
  · exact (bad_run h).elim

theorem OpW.indexAddr {n : Nat} {o : Oper} {t : TypeId} {x ix : Operand} {y : Out} (ho : o.op = .indexAddr t x ix) (h : (evIndexAddr P env n t x ix).run = some y) : OpW P nt env n L o y := by
  obtain ⟨xv, hxv, h⟩ := onEv_run h
  obtain ⟨iv, hiv, h⟩ := onEv_run h
  rcases onInt_run h with ⟨s, kd, k, rfl, h⟩ | h
  · cases s with
    | true => exact (bad_run h).elim
    | false =>
      split at h
      · rename_i e hu
        rcases onSlc_run h with ⟨i, len, rfl, h⟩ | h
        · obtain ⟨u, hu', rfl⟩ := one_run h
          obtain ⟨es, hes, hu'⟩ := Option.bind_eq_some_iff.1 hu'
          cases hb : (decide (0 ≤ k) && decide (k < (len : Int))) with
          | false => rw [hb] at hu'; cases hu'
          | true =>
            rw [hb] at hu'
            simp only [cond_true, Option.some.injEq] at hu'
            subst hu'
            simp only [Bool.and_eq_true, decide_eq_true_eq] at hb
            refine OpW.quiet fun φ V a w he hs => ?_
            obtain ⟨h1, h2⟩ := he.ev hxv
            obtain ⟨h3, _⟩ := he.ev hiv
            rw [conc_tag] at h3
            have hsz := run_size hes w
            refine ⟨?_, h2⟩
            simp [execOp, ho, Instr.indexAt, h1, h3, asIntOf, run_underlying hu, conc, hb, hsz, Addr.add_lit]
        · exact (bad_run h).elim
      · rename_i len e hu
        rcases onPtr_run h with ⟨i, off, rfl, h⟩ | h
        · obtain ⟨u, hu', rfl⟩ := one_run h
          obtain ⟨es, hes, hu'⟩ := Option.bind_eq_some_iff.1 hu'
          cases hb : (decide (0 ≤ k) && decide (k < (len : Int))) with
          | false => rw [hb] at hu'; cases hu'
          | true =>
            rw [hb] at hu'
            simp only [cond_true, Option.some.injEq] at hu'
            subst hu'
            simp only [Bool.and_eq_true, decide_eq_true_eq] at hb
            refine OpW.quiet fun φ V a w he hs => ?_
            obtain ⟨h1, h2⟩ := he.ev hxv
            obtain ⟨h3, _⟩ := he.ev hiv
            rw [conc_tag] at h3
            have hsz := run_size hes w
            refine ⟨?_, h2⟩
            simp [execOp, ho, Instr.indexAt, h1, h3, asIntOf, run_underlying hu, conc, Instr.sureAddr, hb, hsz, Addr.add_lit]
        · exact (bad_run h).elim
      · exact (bad_run h).elim
  · exact (bad_run h).elim

theorem pickAt_spec {x : Int} : ∀ {vs : List AV} {k : Int} {v : AV}, pickAt x vs k = some v → k ≤ x → x < k + vs.length →
    ∃ u, vs[(x - k).toNat]? = some u ∧ (∀ φ, conc φ v = conc φ u) ∧ ∀ V, u.ok V → v.ok V
  | [], _, _, h, _, _ => by cases h
  | [u], k, v, h, h1, h2 => by
    simp only [pickAt, Option.some.injEq] at h
    subst h
    have : x = k := by simp at h2; omega
    subst this
    exact ⟨u, by simp, fun _ => rfl, fun _ h => h⟩
  | u :: u' :: r, k, v, h, h1, h2 => by
    simp only [pickAt, Option.bind_eq_some_iff] at h
    obtain ⟨e, he, hm⟩ := h
    obtain ⟨m1, m2⟩ := mix1_spec hm
    by_cases hx : x = k
    · subst hx
      obtain ⟨g1, g2⟩ := m1 (by simp)
      exact ⟨u, by simp, g1, g2⟩
    · obtain ⟨g1, g2⟩ := m2 (by simpa using hx)
      obtain ⟨z, hz, hz1, hz2⟩ := pickAt_spec (x := x) (vs := u' :: r) he (by omega) (by simp at h2 ⊢; omega)
      refine ⟨z, ?_, fun φ => (g1 φ).trans (hz1 φ), fun V hV => g2 V (hz2 V hV)⟩
      rw [show (x - k).toNat = (x - (k + 1)).toNat + 1 by omega]
      simpa using hz

theorem OpW.index {n : Nat} {o : Oper} {t : TypeId} {x ix : Operand} {y : Out} (ho : o.op = .index t x ix) (h : (evIndex P env n o t x ix).run = some y) : OpW P nt env n L o y := by
  unfold evIndex at h
  split at h
  · rename_i len e hu
    obtain ⟨xv, hxv, h⟩ := onEv_run h
    rcases onAgg_run h with ⟨cs, rfl, h⟩ | h
    · obtain ⟨iv, hiv, h⟩ := onEv_run h
      rcases onInt_run h with ⟨s, kd, k, rfl, h⟩ | h
      · cases s with
        | false =>
          obtain ⟨u, hu', rfl⟩ := one_run h
          cases hb : (decide (0 ≤ k) && decide (k < (len : Int))) with
          | false => rw [hb] at hu'; cases hu'
          | true =>
            rw [hb] at hu'
            simp only [cond_true] at hu'
            obtain ⟨es, hes, hu'⟩ := Option.bind_eq_some_iff.1 hu'
            simp only [Bool.and_eq_true, decide_eq_true_eq] at hb
            refine OpW.quiet fun φ V a w he hs => ?_
            obtain ⟨h1, h2⟩ := he.ev hxv
            obtain ⟨h3, _⟩ := he.ev hiv
            rw [conc_tag] at h3
            obtain ⟨h4, h5⟩ := part_sound hu' h2 φ w
            have hsz := run_size hes w
            refine ⟨?_, h5⟩
            simp [execOp, ho, Instr.index, h1, h3, asIntOf, run_underlying hu, conc, hb, hsz, h4]
        | true =>
          cases hb : ((agg? P e).getD true || !((size? P e) == some 1) || !Nat.beq len cs.length) with
          | true => rw [hb] at h; exact (bad_run h).elim
          | false =>
            rw [hb] at h
            simp only [cond_false] at h
            simp only [Bool.or_eq_false_iff, Bool.not_eq_false'] at hb
            obtain ⟨⟨hb1, hb2⟩, hb3⟩ := hb
            have hlen := Nat.eq_of_beq_eq_true hb3
            have hsz1 : size? P e = some 1 := by simpa using hb2
            have hag : agg? P e = some false := by
              cases hq : agg? P e with
              | none => rw [hq] at hb1; cases hb1
              | some z => rw [hq] at hb1; simp at hb1; rw [hb1]
            rcases T.br_run h with ⟨hc, h⟩ | ⟨_, h⟩
            · obtain ⟨u, hu', rfl⟩ := one_run h
              simp only [Bool.and_eq_true, decide_eq_true_eq] at hc
              obtain ⟨z, hz, hz1, hz2⟩ := pickAt_spec hu' hc.1 (by omega)
              simp only [Int.sub_zero] at hz
              refine OpW.quiet fun φ V a w he hs => ?_
              obtain ⟨h1, h2⟩ := he.ev hxv
              obtain ⟨h3, _⟩ := he.ev hiv
              rw [conc_tag] at h3
              have hpart : partA P e cs (k.toNat * 1) = some z := by simp [partA, hag, nthL_eq, hz]
              obtain ⟨h4, h5⟩ := part_sound hpart h2 φ w
              have hsz := run_size hsz1 w
              refine ⟨?_, hz2 V h5⟩
              rw [hz1]
              simp only [Nat.mul_one] at h4
              simp [execOp, ho, Instr.index, h1, h3, asIntOf, run_underlying hu, conc, hc, hsz, h4]
            · exact (bad_run h).elim
      · exact (bad_run h).elim
    · exact (bad_run h).elim
  · exact OpW.pure (fun cs b => by rw [ho]; simp) h

theorem cap_ok (hs : Sat φ V L w) {i len : Nat} (h : capOK L i len = true) : len ≤ (φ i).2 ∧ ∃ m es cur, metaOf L i = some m ∧ m.k = some es ∧ 1 ≤ es ∧ w.heap[(φ i).1]? = some (.cells cur m.ty (0, 0)) ∧ cur.size = (φ i).2 * es := by
  unfold capOK at h
  split at h
  · rename_i ty es ln hm
    simp only [Bool.and_eq_true] at h
    have h1 := Nat.le_of_ble_eq_true h.1
    obtain ⟨vs, hvs⟩ := Option.isSome_iff_exists.1 h.2
    obtain ⟨hl, hc⟩ := cellsOf_spec hvs
    obtain ⟨_, cur, hcur, hes⟩ := hs.blk i _ hm
    obtain ⟨hsz, _⟩ := hes es rfl
    refine ⟨?_, _, es, cur, hm, rfl, h1, hcur, hsz⟩
    rcases Nat.eq_zero_or_pos len with h0 | h0
    · omega
    · have hpos : 0 < len * es := Nat.mul_pos h0 h1
      have hv : vs[len * es - 1]? = some vs[len * es - 1] := List.getElem?_eq_getElem (by omega)
      have hcell := hs.cell i _ _ (hc _ _ hv)
      rw [Nat.zero_add, cell_of_row w (φ i).1 _ cur _ _ hcur] at hcell
      have hlt := (Array.getElem?_eq_some_iff.1 hcell).1
      have : len * es ≤ (φ i).2 * es := by omega
      exact Nat.le_of_mul_le_mul_right this h1
  · cases h

theorem OpW.slice {n : Nat} {o : Oper} {t : TypeId} {x : Operand} {lo hi mx : Option Operand} {y : Out} (ho : o.op = .slice t x lo hi mx) (h : (evSlice P env n L o t x lo hi mx).run = some y) : OpW P nt env n L o y := by
  unfold evSlice at h
  split at h
  · rename_i e hu
    obtain ⟨xv, hxv, h⟩ := onEv_run h
    have h' := onSlc_run h
    clear h
    rcases h' with ⟨i, len, rfl, h⟩ | h
    · split at h
      · split at h
        · cases hb : (capOK L i len && (size? P e).isSome) with
          | false => rw [hb] at h; exact (bad_run h).elim
          | true =>
            rw [hb] at h
            cases Option.some.inj h
            simp only [Bool.and_eq_true] at hb
            obtain ⟨es, hes⟩ := Option.isSome_iff_exists.1 hb.2
            refine OpW.quiet fun φ V a w he hs => ?_
            obtain ⟨h1, h2⟩ := he.ev hxv
            obtain ⟨hcap, _⟩ := cap_ok hs hb.1
            have hsz := run_size hes w
            refine ⟨?_, h2⟩
            simp [execOp, ho, Instr.sliceAt, Instr.slice, Instr.sliceBounds, h1, run_underlying hu, conc, hsz, Addr.add]
        · rename_i hh
          obtain ⟨hv, hhv, h⟩ := onEv_run h
          have h' := onInt_run h
          clear h
          rcases h' with ⟨s, kd, k, rfl, h⟩ | h
          · cases s with
            | true => exact (bad_run h).elim
            | false =>
              cases hb : (decide (0 ≤ k) && (decide (k ≤ (len : Int)) && (capOK L i len && (size? P e).isSome))) with
              | false => rw [hb] at h; exact (bad_run h).elim
              | true =>
                rw [hb] at h
                cases Option.some.inj h
                simp only [Bool.and_eq_true, decide_eq_true_eq] at hb
                obtain ⟨hk0, hk1, hb1, hb2⟩ := hb
                obtain ⟨es, hes⟩ := Option.isSome_iff_exists.1 hb2
                refine OpW.quiet fun φ V a w he hs => ?_
                obtain ⟨h1, h2⟩ := he.ev hxv
                obtain ⟨h3, _⟩ := he.ev hhv
                rw [conc_tag] at h3
                obtain ⟨hcap, _⟩ := cap_ok hs hb1
                have hsz := run_size hes w
                have hkc : k ≤ ((φ i).2 : Int) := by omega
                refine ⟨?_, h2⟩
                simp [execOp, ho, Instr.sliceAt, Instr.slice, Instr.sliceBounds, Instr.sliceBound, h1, h3, asIntOf, run_underlying hu, conc, hsz, hk0, hkc, Addr.add]
          · exact (bad_run h).elim
      · exact (bad_run h).elim
    · exact (bad_run h).elim
  · exact OpW.pure (fun cs b => by rw [ho]; simp) h

end
end Go.Sx
