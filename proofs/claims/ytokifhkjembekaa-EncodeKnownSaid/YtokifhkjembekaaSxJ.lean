/- The symbolic evaluator's soundness, seventh part: conversions, structs and slices that are built, maps, append and len. Conditions: none. -/
import Derived.Test.YtokifhkjembekaaSxI
import Derived.Laws.BytesArg
namespace Go.Sx
section
variable {P : Program} {φ φ' : Phi} {V V' : Nat → Prop} {nt : Nat} {env : Env} {a : Act} {L : Log} {w : World}

theorem bytesA_spec : ∀ {cs : List AV} {b : Bool} {l : List UInt8}, bytesA cs = some (b, l) → ∃ ns : List Int, (∀ φ, concs φ cs = ns.map (Value.int .u8)) ∧ l = ns.map fun n => UInt8.ofNat n.toNat
  | [], b, l, h => by cases h; exact ⟨[], fun _ => rfl, rfl⟩
  | v :: r, b, l, h => by
    unfold bytesA at h
    split at h
    · rename_i e; cases e
    · rename_i n r' e
      cases e
      obtain ⟨p, hp, he⟩ := Option.bind_eq_some_iff.1 h
      cases he
      obtain ⟨ns, h1, h2⟩ := bytesA_spec (b := p.1) (l := p.2) hp
      exact ⟨n :: ns, fun φ => by simp [concs, conc, h1 φ], by simp [h2]⟩
    · rename_i n r' e
      cases e
      obtain ⟨p, hp, he⟩ := Option.bind_eq_some_iff.1 h
      cases he
      obtain ⟨ns, h1, h2⟩ := bytesA_spec (b := p.1) (l := p.2) hp
      exact ⟨n :: ns, fun φ => by simp [concs, conc, h1 φ], by simp [h2]⟩
    · cases h

theorem OpW.convert {n : Nat} {o : Oper} {src dst : TypeId} {x : Operand} {y : Out} (ho : o.op = .convert src dst x) (h : (evConvert P env n L o src dst x).run = some y) : OpW P nt env n L o y := by
  have hp : ∀ {r : Out}, (one (evPure P env o) n).run = some r → OpW P nt env n L o r := fun h => OpW.pure (fun cs b => by rw [ho]; simp) h
  unfold evConvert at h
  split at h
  · rename_i d k hs hd
    replace h := onEv_run h
    obtain ⟨v, hv, h⟩ := h
    replace h := onInt_run h
    rcases h with ⟨s, j, q, rfl, h⟩ | h
    · cases Option.some.inj h
      refine OpW.quiet fun φ V a w he hs' => ⟨?_, ok_tag _ _ _⟩
      have h1 := (he.ev hv).1
      rw [conc_tag] at h1
      simp [execOp, ho, h1, Go.convert, run_underlying hs, run_underlying hd, Conv.intToInt, conc_tag]
    · exact hp h
  · rename_i e hs hd
    replace h := onEv_run h
    obtain ⟨v, hv, h⟩ := h
    replace h := onSlc_run h
    rcases h with ⟨i, len, rfl, h⟩ | h
    · split at h
      · rename_i he'
        obtain ⟨u, hu, rfl⟩ := one_run h
        obtain ⟨cs, hcs, hu⟩ := Option.bind_eq_some_iff.1 hu
        obtain ⟨⟨b, l⟩, hb, rfl⟩ := Option.map_eq_some_iff.1 hu
        obtain ⟨ns, h1, h2⟩ := bytesA_spec hb
        refine OpW.quiet fun φ V a w he hsat => ⟨?_, ok_tag _ _ _⟩
        have hx := (he.ev hv).1
        obtain ⟨hc, _, hl⟩ := cells_at hsat hcs
        have hlen : ns.length = len := by
          have := congrArg List.length (h1 φ)
          rw [concs_eq] at this
          simp at this
          omega
        have hr := run_convert_bytes_arg (P := P) w src e hs he' (φ i).1 0 len (φ i).2 ns hlen (fun j hj => by
          have := hc j (.int .u8 (ns.getD j 0)) (by rw [h1 φ]; simp [List.getElem?_eq_getElem (show j < ns.length by omega), List.getD])
          rw [Addr.add_lit] at this; exact this) dst hd
        simp only [conc] at hx
        rw [conc_tag]
        subst h2
        simp [execOp, ho, hx, hr, strOfNums]
      · exact (bad_run h).elim
    · exact hp h
  · exact hp h

theorem setAt_spec (φ : Phi) : ∀ (vs xs : List AV) (off : Nat), concs φ (setAt xs off vs) = ((concs φ vs).zipIdx).foldl (fun cs (p : Value × Nat) => cs.set (off + p.2) p.1) (concs φ xs) := by
  have gen : ∀ (vs xs : List AV) (off s : Nat), concs φ (setAt xs (off + s) vs) = ((concs φ vs).zipIdx s).foldl (fun cs (p : Value × Nat) => cs.set (off + p.2) p.1) (concs φ xs) := by
    intro vs
    induction vs with
    | nil => intro xs off s; rfl
    | cons v r ih =>
      intro xs off s
      simp only [setAt, concs, List.zipIdx_cons, List.foldl_cons]
      rw [show off + s + 1 = off + (s + 1) by omega, ih]
      congr 1
      rw [concs_eq, concs_eq, List.map_set]
  intro vs xs off
  exact gen vs xs off 0

theorem oks_setAt {V : Nat → Prop} : ∀ (vs xs : List AV) (off : Nat), AV.oks V vs → AV.oks V xs → AV.oks V (setAt xs off vs)
  | [], _, _, _, h => h
  | v :: r, xs, off, hv, hx => by
    refine oks_setAt r (xs.set off v) (off + 1) hv.2 ?_
    rw [oks_iff] at hx ⊢
    intro u hu
    rcases List.mem_or_eq_of_mem_set hu with h | h
    · exact hx u h
    · subst h; exact hv.1

theorem len_setAt : ∀ (vs xs : List AV) (off : Nat), (setAt xs off vs).length = xs.length
  | [], _, _ => rfl
  | v :: r, xs, off => by rw [setAt, len_setAt r]; simp

theorem toArray_foldl_set (off : Nat) : ∀ (l : List (Value × Nat)) (xs : List Value), (l.foldl (fun (cs : Array Value) (p : Value × Nat) => cs.setIfInBounds (off + p.2) p.1) xs.toArray) = (l.foldl (fun cs p => cs.set (off + p.2) p.1) xs).toArray
  | [], _ => rfl
  | p :: l, xs => by
    simp only [List.foldl_cons]
    rw [← toArray_foldl_set off l]
    congr 1
    simp

theorem fill_spec (φ : Phi) {place : Nat → Option (Nat × Nat)} {place' : Nat → Option (Nat × Nat)} : ∀ {ps : List (Nat × AV)} {cells cs : List AV}, fillA place cells ps = some cs → (∀ i x, place i = some x → place' i = some x) →
    Instr.fill place' (concs φ cells).toArray (ps.map fun p => (p.1, conc φ p.2)) = some (concs φ cs).toArray ∧ (AV.oks V cells → (∀ p ∈ ps, p.2.ok V) → AV.oks V cs) ∧ cs.length = cells.length
  | [], cells, cs, h, _ => by cases h; exact ⟨rfl, fun h _ => h, rfl⟩
  | (i, v) :: rest, cells, cs, h, hpl => by
    simp only [fillA, Option.bind_eq_some_iff] at h
    obtain ⟨⟨off, sz⟩, hp, h⟩ := h
    cases hc : (Nat.beq v.cells.length sz && Nat.ble (off + v.cells.length) cells.length) with
    | false => rw [hc] at h; cases h
    | true =>
      rw [hc] at h
      simp only [cond_true] at h
      simp only [Bool.and_eq_true] at hc
      have h1 := Nat.eq_of_beq_eq_true hc.1
      have h2 := Nat.le_of_ble_eq_true hc.2
      obtain ⟨g1, g2, g3⟩ := fill_spec φ h hpl
      refine ⟨?_, fun hok hps => g2 (oks_setAt _ _ _ (ok_cells V v (hps (i, v) (by simp))) hok) (fun p hp => hps p (by simp [hp])), by rw [g3, len_setAt]⟩
      simp only [List.map_cons, Instr.fill, hpl i _ hp]
      have hcc := conc_cells φ v
      have hl1 : (conc φ v).cells.size = sz := by rw [hcc]; simp [concs_eq, h1]
      have hl2 : ¬ ((conc φ v).cells.size ≠ sz || decide (off + (conc φ v).cells.size > (concs φ cells).toArray.size)) = true := by
        rw [hl1]; simp [concs_eq]; omega
      have e : (conc φ v).cells.zipIdx.foldl (fun cs (x : Value × Nat) => match x with | (c, j) => cs.setIfInBounds (off + j) c) (concs φ cells).toArray = (concs φ (setAt cells off v.cells)).toArray := by
        rw [setAt_spec, ← toArray_foldl_set, hcc, ← Array.foldl_toList]
        simp
      simp only [ne_eq, hl1, not_true_eq_false, decide_false, Bool.false_or, decide_eq_true_eq]
      rw [if_neg (by simp [concs_eq]; omega), e]
      exact g1

theorem evParts_spec (he : EnvOK φ V nt env a) : ∀ {ps : List (Nat × Operand)} {vs : List (Nat × AV)}, evParts env ps = some vs → ps.map (fun (i, x) => (i, a.eval x)) = vs.map (fun p => (p.1, conc φ p.2)) ∧ ∀ p ∈ vs, p.2.ok V
  | [], vs, h => by cases h; exact ⟨rfl, fun _ h => by cases h⟩
  | (i, x) :: r, vs, h => by
    simp only [evParts, Option.bind_eq_some_iff] at h
    obtain ⟨v, hv, l, hl, hx⟩ := h
    cases hx
    obtain ⟨h1, h2⟩ := evParts_spec he hl
    obtain ⟨h3, h4⟩ := he.ev hv
    refine ⟨by simp [h1, h3], fun p hp => ?_⟩
    cases hp with
    | head => exact h4
    | tail _ hp => exact h2 p hp

theorem run_places : ∀ {l : List Field} {pl : List (Nat × Nat)}, placesOf P l = some pl → ∀ w, ((l.mapM fun (f : Field) => do pure (f.offset, ← sizeOf f.type) : Sem (List (Nat × Nat)))).run P w = .ok pl w
  | [], pl, h, w => by cases h; rfl
  | f :: r, pl, h, w => by
    simp only [placesOf, obind_eq, Option.bind_eq_some_iff] at h
    obtain ⟨k, hk, l, hl, he⟩ := h
    cases he
    have hsz := run_size hk w
    have ih := run_places hl w
    simp only [List.mapM_cons, Sem.run_bind, hsz, Result.andThen_ok, Sem.run_pure] at ih ⊢
    rw [ih]
    rfl

theorem OpW.build {n : Nat} {o : Oper} {t : TypeId} {parts : Array (Nat × Operand)} {y : Out} (ho : o.op = .build t parts) (h : (evBuild P env n t parts).run = some y) : OpW P nt env n L o y := by
  obtain ⟨u, hu, rfl⟩ := one_run h
  simp only [obind_eq] at hu
  obtain ⟨z, hz, hu⟩ := Option.bind_eq_some_iff.1 hu
  obtain ⟨ps, hps, hu⟩ := Option.bind_eq_some_iff.1 hu
  split at hu
  · rename_i fs hu'
    obtain ⟨pl, hpl, hu⟩ := Option.bind_eq_some_iff.1 hu
    obtain ⟨cs, hcs, rfl⟩ := Option.map_eq_some_iff.1 hu
    refine OpW.quiet fun φ V a w he hs => ?_
    obtain ⟨hpe, hpo⟩ := evParts_spec he hps
    obtain ⟨zv, hzv, hzc⟩ := run_zero hz φ w
    have hpar : (parts.map fun (i, x) => (i, a.eval x)).toList = ps.map fun p => (p.1, conc φ p.2) := by rw [Array.toList_map, hpe]
    obtain ⟨g1, g2, _⟩ := fill_spec φ (place' := (pl.toArray[·]?)) hcs (fun i x hx => by rw [nthL_eq] at hx; simpa using hx)
    have hm := run_places hpl w
    refine ⟨?_, g2 (oks_zero hz V) hpo⟩
    simp only [execOp, ho, Instr.build, Sem.run_bind, hzv, Result.andThen_ok, run_underlying hu', Array.mapM_eq_mapM_toList, Sem.run_map, hm, hpar, hzc, g1, conc, Sem.run_pure]
  · rename_i len e hu'
    obtain ⟨k, hk, hu⟩ := Option.bind_eq_some_iff.1 hu
    obtain ⟨cs, hcs, rfl⟩ := Option.map_eq_some_iff.1 hu
    refine OpW.quiet fun φ V a w he hs => ?_
    obtain ⟨hpe, hpo⟩ := evParts_spec he hps
    obtain ⟨zv, hzv, hzc⟩ := run_zero hz φ w
    have hpar : (parts.map fun (i, x) => (i, a.eval x)).toList = ps.map fun p => (p.1, conc φ p.2) := by rw [Array.toList_map, hpe]
    obtain ⟨g1, g2, _⟩ := fill_spec φ (place' := fun i => some (i * k, k)) hcs (fun i x hx => hx)
    have hsz := run_size hk w
    refine ⟨?_, g2 (oks_zero hz V) hpo⟩
    simp only [execOp, ho, Instr.build, Sem.run_bind, hzv, Result.andThen_ok, run_underlying hu', hsz, hpar, hzc, g1, conc, Sem.run_pure]
  · cases hu

theorem info3_spec {e es by' : Nat} {z : Value} (h : info3? P e = some (es, by', z)) : ∃ i, P.info? e = some i ∧ i.zero = some z ∧ i.size = es ∧ i.bytes = by' := by
  unfold info3? at h
  obtain ⟨i, hi, h⟩ := Option.bind_eq_some_iff.1 h
  obtain ⟨z', hz, h⟩ := Option.map_eq_some_iff.1 h
  cases h
  exact ⟨i, hi, hz, rfl, rfl⟩

theorem OpW.buildSlice {n : Nat} {o : Oper} {t : TypeId} {len : Nat} {parts : Array (Nat × Operand)} {y : Out} (ho : o.op = .buildSlice t len parts) (h : (evBuildSlice P env n t len parts).run = some y) : OpW P nt env n L o y := by
  replace h := T.opt_run h
  split at h
  · rename_i e hu
    obtain ⟨⟨es, by', z⟩, hi3, h⟩ := Option.bind_eq_some_iff.1 h
    simp only at h
    cases hc : (Nat.beq z.cells.size es && (Nat.ble 1 es && Nat.ble (len * es) 100000)) with
    | false => rw [hc] at h; cases h
    | true =>
      rw [hc] at h
      simp only [cond_true] at h
      simp only [Bool.and_eq_true] at hc
      have hz1 := Nat.eq_of_beq_eq_true hc.1
      have hz2 := Nat.le_of_ble_eq_true hc.2.1
      have hz3 := Nat.le_of_ble_eq_true hc.2.2
      obtain ⟨ps, hps, h⟩ := Option.bind_eq_some_iff.1 h
      obtain ⟨cs, hcs, h⟩ := Option.bind_eq_some_iff.1 h
      cases hone : allL AV.one cs with
      | false => rw [hone] at h; cases h
      | true =>
        rw [hone] at h
        cases h
        obtain ⟨i, hi, hiz, his, _⟩ := info3_spec hi3
        refine OpW.value (Nat.le_succ n) fun φ V a w hcl he hs => ?_
        obtain ⟨hpe, hpo⟩ := evParts_spec he hps
        obtain ⟨g1, g2, g3⟩ := fill_spec φ (place' := fun i => some (i * es, es)) hcs (fun i x hx => hx)
        have hok0 : AV.oks V (mapL (fun j => AV.c (z.cells[j % z.cells.size]!)) (List.range (len * es))) := by
          rw [mapL_eq, oks_iff]; intro v hv
          obtain ⟨j, _, rfl⟩ := List.mem_map.1 hv; trivial
        have hcs0 : concs φ (mapL (fun j => AV.c (z.cells[j % z.cells.size]!)) (List.range (len * es))) = (List.range (len * es)).map (fun j => z.cells[j % z.cells.size]!) := by
          rw [mapL_eq, concs_eq, List.map_map]; rfl
        have hlen : cs.length = len * es := by rw [g3, mapL_eq]; simp
        have hpar : (parts.map fun (i, x) => (i, a.eval x)).toList = ps.map fun p => (p.1, conc φ p.2) := by rw [Array.toList_map, hpe]
        have hst := Step.alloc hs hcl e (some es) cs (g2 hok0 hpo) (concs φ cs).toArray (fun j v hv => by simp [concs_eq, hv]) len (fun es' he' => by
          cases he'
          refine ⟨by simp [concs_eq, hlen], ?_⟩
          have : len * 1 ≤ len * es := Nat.mul_le_mul_left _ hz2
          simp only [maxLen]; omega) rfl rfl rfl rfl
        refine ⟨_, _, ?_, hst, .inr ⟨Nat.le_refl _, Nat.lt_succ_self _⟩⟩
        have hcell0 : (Array.range (len * es)).map (z.cells[· % z.cells.size]!) = (concs φ (mapL (fun j => AV.c (z.cells[j % z.cells.size]!)) (List.range (len * es)))).toArray := by
          rw [hcs0]; apply Array.ext'; simp [Array.toList_map]
        have hfill : Instr.fill (fun i => some (i * es, es)) ((Array.range (len * es)).map (z.cells[· % z.cells.size]!)) (parts.map fun (i, x) => (i, a.eval x)).toList = some (concs φ cs).toArray := by
          rw [hcell0, hpar]; exact g1
        have hsm : ¬ (len * es > 2 ^ 24) := by omega
        by_cases h0 : len * es = 0
        · have hz0 : (Array.range 0).map ((#[] : Array Value)[· % (#[] : Array Value).size]!) = (Array.range 0).map (z.cells[· % z.cells.size]!) := by simp
          simp only [execOp, ho, Instr.buildSlice, Sem.run_bind, run_underlying hu, Result.andThen_ok, sizeOf, typeInfo, run_program, hi, Sem.run_pure, his, Sem.run_ite, if_neg hsm, if_pos h0, conc, up_same]
          rw [h0] at hfill ⊢
          rw [hz0, hfill]
          simp [newRow, h0]
        · simp only [execOp, ho, Instr.buildSlice, Sem.run_bind, run_underlying hu, Result.andThen_ok, sizeOf, typeInfo, zeroValue, run_program, hi, hiz, Sem.run_pure, his, Sem.run_ite, if_neg hsm, if_neg h0, conc, up_same]
          rw [hfill]
          simp [newRow]
  · cases h

end
end Go.Sx
