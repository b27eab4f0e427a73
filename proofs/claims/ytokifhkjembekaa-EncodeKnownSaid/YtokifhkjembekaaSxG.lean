/- The symbolic evaluator's soundness, fourth part: operations on memory. Conditions: none. -/
import Derived.Test.YtokifhkjembekaaSxF
namespace Go.Sx
section
variable {P : Program} {φ φ' : Phi} {V V' : Nat → Prop} {nt : Nat} {env : Env} {a : Act} {L : Log} {w : World}

theorem run_agg {t : TypeId} {b : Bool} (h : agg? P t = some b) (w : World) : (isAgg t).run P w = .ok b w := by
  unfold agg? at h
  unfold isAgg
  cases hu : P.underlying t with
  | none => rw [hu] at h; cases h
  | some d =>
    rw [hu] at h
    simp only [Sem.run_bind, run_underlying hu, Result.andThen_ok]
    cases d <;> (simp only [Option.some.injEq] at h; subst h; rfl)

theorem run_size {t : TypeId} {k : Nat} (h : size? P t = some k) (w : World) : (sizeOf t).run P w = .ok k w := by
  unfold size? at h
  obtain ⟨i, hi, hk⟩ := Option.map_eq_some_iff.1 h
  subst hk
  simp [sizeOf, typeInfo, hi]

theorem run_zero {t : TypeId} {l : List AV} (h : zero? P t = some l) (φ : Phi) (w : World) : ∃ z, (zeroValue t).run P w = .ok z w ∧ z.cells = (concs φ l).toArray := by
  unfold zero? at h
  obtain ⟨z, hz, hl⟩ := Option.map_eq_some_iff.1 h
  obtain ⟨i, hi, hiz⟩ := Option.bind_eq_some_iff.1 hz
  refine ⟨z, by simp [zeroValue, typeInfo, hi, hiz], ?_⟩
  subst hl
  rw [concs_eq, List.map_map]
  have : (conc φ ∘ AV.c) = id := by funext x; rfl
  rw [this, List.map_id]

theorem oks_zero {t : TypeId} {l : List AV} (h : zero? P t = some l) (V : Nat → Prop) : AV.oks V l := by
  unfold zero? at h
  obtain ⟨z, _, hl⟩ := Option.map_eq_some_iff.1 h
  subst hl
  rw [oks_iff]
  intro v hv
  obtain ⟨x, _, rfl⟩ := List.mem_map.1 hv
  trivial

theorem run_field {t : TypeId} {f : Nat} {fd : Field} (h : field? P t f = some fd) : ∃ fs, P.underlying t = some (.struct fs) ∧ fs[f]? = some fd := by
  unfold field? at h
  split at h
  · rename_i fs hu; exact ⟨fs, hu, h⟩
  · cases h

theorem cells_at (h : Sat φ V L w) {i off n : Nat} {vs : List AV} (hc : cellsOf L i off n = some vs) :
    (∀ (j : Nat) (v : Value), (concs φ vs)[j]? = some v → w.cell? ((⟨(φ i).1, off, none⟩ : Addr).add j) = some v) ∧ AV.oks V vs ∧ vs.length = n := by
  obtain ⟨h1, h2⟩ := cellsOf_spec hc
  refine ⟨fun j v hv => ?_, ?_, h1⟩
  · rw [concs_eq, List.getElem?_map] at hv
    obtain ⟨u, hu, hv⟩ := Option.map_eq_some_iff.1 hv
    subst hv
    rw [Addr.add_lit]
    exact h.cell i _ u (h2 j u hu)
  · rw [oks_iff]
    intro v hv
    obtain ⟨j, hj⟩ := List.getElem?_of_mem hv
    exact (h.ok i _ v (h2 j v hj)).1

theorem load_sound (h : Sat φ V L w) {t : TypeId} {i off : Nat} {v : AV} (hv : loadA P L t i off = some v) :
    (loadVar t ⟨(φ i).1, off, none⟩).run P w = .ok (conc φ v) w ∧ v.ok V := by
  unfold loadA at hv
  obtain ⟨b, hb, hv⟩ := Option.bind_eq_some_iff.1 hv
  have hagg := run_agg hb w
  cases b with
  | false =>
    have hc := h.cell i off v hv
    refine ⟨?_, (h.ok i off v hv).1⟩
    simp [loadVar, hagg, hc]
  | true =>
    obtain ⟨k, hk, hv⟩ := Option.bind_eq_some_iff.1 hv
    obtain ⟨vs, hvs, rfl⟩ := Option.map_eq_some_iff.1 hv
    obtain ⟨h1, h2, h3⟩ := cells_at h hvs
    have hsz := run_size hk w
    have hl := run_loadCells_list (P := P) w ⟨(φ i).1, off, none⟩ (concs φ vs) h1
    rw [concs_eq, List.length_map, h3, ← concs_eq] at hl
    refine ⟨?_, h2⟩
    simp [loadVar, hagg, hsz, hl, conc]

theorem OpW.load {n : Nat} {o : Oper} {t : TypeId} {x : Operand} {y : Out} (ho : o.op = .load t x) (h : (evLoad P env n L t x).run = some y) : OpW P nt env n L o y := by
  obtain ⟨v, hv, h⟩ := onEv_run h
  rcases onPtr_run h with ⟨i, off, rfl, h⟩ | h
  · obtain ⟨u, hu, rfl⟩ := one_run h
    refine OpW.quiet fun φ V a w he hs => ?_
    obtain ⟨h1, h2⟩ := load_sound hs hu
    refine ⟨?_, h2⟩
    simp only [execOp, ho, Instr.loadAt, (he.ev hv).1, conc, Instr.sureAddr]
    simp [h1]
  · exact (bad_run h).elim

theorem heap_setCells (b : Nat) : ∀ (vs : List Value) (o : Nat) (w : World), (w.setCells b o vs).os = w.os ∧ (w.setCells b o vs).tape = w.tape ∧ (w.setCells b o vs).output = w.output ∧ (w.setCells b o vs).heap.size = w.heap.size ∧
    (∀ c, c ≠ b → (w.setCells b o vs).heap[c]? = w.heap[c]?) ∧ (∀ cur ty, w.heap[b]? = some (.cells cur ty (0, 0)) → ∃ cur', (w.setCells b o vs).heap[b]? = some (.cells cur' ty (0, 0)) ∧ cur'.size = cur.size)
  | [], _, w => ⟨rfl, rfl, rfl, rfl, fun _ _ => rfl, fun cur ty h => ⟨cur, h, rfl⟩⟩
  | v :: r, o, w => by
    obtain ⟨h1, h2, h3, h4, h5, h6⟩ := heap_setCells b r (o + 1) (w.setCell ⟨b, o, none⟩ v)
    refine ⟨h1, h2, h3, by rw [World.setCells, h4, World.size_setCell], fun c hc => ?_, fun cur ty h => ?_⟩
    · rw [World.setCells, h5 c hc]
      simp [World.setCell, Array.getElem?_modify, Ne.symm hc]
    · have hs := heap_setCell_same w b o cur ty v h
      obtain ⟨cur', hc', hsz⟩ := h6 _ ty hs
      exact ⟨cur', hc', by rw [hsz]; simp⟩

theorem one_conc (φ : Phi) {v : AV} (h : v.one = true) : (conc φ v).oneCell' = true := by
  cases v <;> first | exact h | rfl | (simp [AV.one] at h)

theorem OpW.store {n : Nat} {o : Oper} {t : TypeId} {x y : Operand} {r : Out} (ho : o.op = .store t x y) (h : (evStore P env n L t x y).run = some r) : OpW P nt env n L o r := by
  obtain ⟨p, hp, h⟩ := onEv_run h
  rcases onPtr_run h with ⟨i, off, rfl, h⟩ | h
  · obtain ⟨v, hv, h⟩ := onEv_run h
    have h := T.opt_run h
    obtain ⟨k, hk, h⟩ := Option.bind_eq_some_iff.1 h
    rw [lenL_eq, allL_eq] at h
    cases hc : (Nat.beq v.cells.length k && (known L i off k && v.cells.all AV.one)) with
    | false => rw [hc] at h; cases h
    | true =>
      rw [hc] at h
      simp only [cond_true, Option.some.injEq] at h
      subst h
      simp only [Bool.and_eq_true] at hc
      obtain ⟨hlen, hkn, hone⟩ := hc
      have hlen := Nat.eq_of_beq_eq_true hlen
      unfold known at hkn
      obtain ⟨olds, holds⟩ := Option.isSome_iff_exists.1 hkn
      refine ⟨Nat.le_refl _, fun φ V a w K Q _ he hs hK => ?_⟩
      obtain ⟨hev, hok⟩ := he.ev hv
      obtain ⟨hol, hoc⟩ := cellsOf_spec holds
      have hcl := conc_cells φ v
      have hsz := run_size hk w
      have hlc : (concs φ v.cells).length = k := by rw [concs_eq, List.length_map]; exact hlen
      have hknown : ∀ j, j < k → (cellOf L i (off + j)).isSome := fun j hj => by
        have : olds[j]? = some olds[j] := List.getElem?_eq_getElem (by omega)
        rw [hoc j _ this]; rfl
      have hrun : (storeCells ⟨(φ i).1, off, none⟩ (concs φ v.cells) 0).run P w = .ok () (w.setCells (φ i).1 off (concs φ v.cells)) := by
        refine run_storeCells_cells (φ i).1 off (concs φ v.cells) 0 w (fun j hj => ?_) (fun j hj => ?_) (fun u hu => ?_)
        · obtain ⟨u, hu⟩ := Option.isSome_iff_exists.1 (hknown j (by omega))
          rw [Nat.add_zero, hs.cell i _ u hu]; rfl
        · obtain ⟨u, hu⟩ := Option.isSome_iff_exists.1 (hknown j (by omega))
          obtain ⟨m, hm⟩ := Option.isSome_iff_exists.1 (hs.ok i _ u hu).2
          obtain ⟨_, cur, hcur, _⟩ := hs.blk i m hm
          simp [World.frozen?, hcur]
        · rw [concs_eq] at hu
          obtain ⟨z, hz, rfl⟩ := List.mem_map.1 hu
          exact one_conc φ (List.all_eq_true.1 hone z hz)
      have hop : (execOp a.eval o).run P w = .ok .skip (w.setCells (φ i).1 off (concs φ v.cells)) := by
        simp only [execOp, ho, Instr.storeAt, (he.ev hp).1, conc, Instr.sureAddr, hev, storeVar]
        simp [hsz, hcl, hlc, hrun]
      unfold Oper.wp
      rw [hop]
      simp only [Add.same] at hK
      obtain ⟨g1, g2, g3, g4, g5, g6⟩ := heap_setCells (φ i).1 (concs φ v.cells) off w
      by_cases hnil : v.cells = []
      · refine hK φ _ undef ?_ rfl
        have : concs φ v.cells = [] := by rw [hnil]; rfl
        rw [this, hnil]
        exact Step.refl hs
      · refine hK φ _ undef (Step.store hs i off v.cells (ok_cells V v hok) (fun j hj => hknown j (by omega)) g1 g2 g3 g4 g5 g6 (fun q => ?_) hnil) rfl
        by_cases hq : off ≤ q ∧ q < off + v.cells.length
        · rw [if_pos hq]
          have hj : q - off < (concs φ v.cells).length := by omega
          have := World.cell?_setCells_in (φ i).1 (concs φ v.cells) off w (fun j hj => by
            obtain ⟨u, hu⟩ := Option.isSome_iff_exists.1 (hknown j (by omega))
            rw [hs.cell i _ u hu]; rfl) (q - off) hj
          rw [show off + (q - off) = q by omega] at this
          rw [this, List.getElem?_eq_getElem hj]
        · rw [if_neg hq]
          exact World.cell?_setCells_out (φ i).1 (concs φ v.cells) off w _ (fun _ _ => by show q < off ∨ off + (concs φ v.cells).length ≤ q; omega)
  · exact (bad_run h).elim

theorem new_cons (n ty : Nat) (k : Option Nat) (cells : List AV) (L : Log) : ([.new n ty k cells] ++ L : Log) = .new n ty k cells :: L := rfl

theorem OpW.alloc {n : Nat} {o : Oper} {t : TypeId} {y : Out} (ho : o.op = .alloc t) (h : (evAlloc P n t).run = some y) : OpW P nt env n L o y := by
  have h := T.opt_run h
  obtain ⟨cs, hcs, rfl⟩ := Option.map_eq_some_iff.1 h
  refine OpW.value (Nat.le_succ n) fun φ V a w hc he hs => ?_
  obtain ⟨z, hz, hzc⟩ := run_zero hcs φ w
  have hst := Step.alloc hs hc t none cs (oks_zero hcs V) (concs φ cs).toArray (fun j v hv => by simp [concs_eq, hv]) 0 (fun es he => by cases he) rfl rfl rfl rfl
  refine ⟨_, _, ?_, hst, .inr ⟨Nat.le_refl _, Nat.lt_succ_self _⟩⟩
  simp [execOp, ho, Instr.alloc, hz, newVar, newRow, hzc, conc, up_same]

theorem OpW.box {n : Nat} {o : Oper} {t : TypeId} {x : Operand} {y : Out} (ho : o.op = .box t x) (h : (evBox env n t x).run = some y) : OpW P nt env n L o y := by
  obtain ⟨v, hv, h⟩ := onEv_run h
  cases Option.some.inj h
  refine OpW.value (Nat.le_succ n) fun φ V a w hc he hs => ?_
  obtain ⟨hev, hok⟩ := he.ev hv
  have hst := Step.alloc hs hc t none v.cells (ok_cells V v hok) (concs φ v.cells).toArray (fun j v hv => by simp [concs_eq, hv]) 0 (fun es he => by cases he) rfl rfl rfl rfl
  refine ⟨_, _, ?_, hst, .inr ⟨Nat.le_refl _, Nat.lt_succ_self _⟩⟩
  simp [execOp, ho, Instr.box, newVar, newRow, hev, conc_cells, conc, up_same]

theorem OpW.nilCheck {n : Nat} {o : Oper} {x : Operand} {y : Out} (ho : o.op = .nilCheck x) (h : (evNilCheck env n x).run = some y) : OpW P nt env n L o y := by
  obtain ⟨v, hv, h⟩ := onEv_run h
  split at h
  · cases Option.some.inj h
    refine OpW.quiet fun φ V a w he hs => ?_
    obtain ⟨h1, h2⟩ := he.ev hv
    refine ⟨?_, h2⟩
    simp [execOp, ho, h1, conc]
  · cases Option.some.inj h
    refine OpW.quiet fun φ V a w he hs => ?_
    obtain ⟨h1, h2⟩ := he.ev hv
    refine ⟨?_, h2⟩
    simp [execOp, ho, h1, conc]
  · exact (bad_run h).elim

theorem OpW.fieldAddr {n : Nat} {o : Oper} {t : TypeId} {x : Operand} {f : Nat} {y : Out} (ho : o.op = .fieldAddr t x f) (h : (evFieldAddr P env n t x f).run = some y) : OpW P nt env n L o y := by
  obtain ⟨v, hv, h⟩ := onEv_run h
  rcases onPtr_run h with ⟨i, off, rfl, h⟩ | h
  · obtain ⟨u, hu, rfl⟩ := one_run h
    obtain ⟨fd, hfd, hu⟩ := Option.bind_eq_some_iff.1 hu
    obtain ⟨k, hk, hu⟩ := Option.bind_eq_some_iff.1 hu
    cases hk0 : Nat.beq k 0 with
    | true => rw [hk0] at hu; cases hu
    | false =>
      rw [hk0] at hu
      simp only [cond_false, Option.some.injEq] at hu
      subst hu
      have hk0' : k ≠ 0 := by rintro rfl; cases hk0
      obtain ⟨fs, hfs, hff⟩ := run_field hfd
      refine OpW.quiet fun φ V a w he hs => ?_
      obtain ⟨h1, h2⟩ := he.ev hv
      refine ⟨?_, h2⟩
      have hsz := run_size hk w
      simp [execOp, ho, Instr.fieldAt, run_underlying hfs, hff, h1, conc, Instr.sureAddr, fieldPlace, hsz, hk0', Addr.add_lit]
  · exact (bad_run h).elim

theorem part_sound {t : TypeId} {cs : List AV} {off : Nat} {v : AV} (h : partA P t cs off = some v) (hok : AV.oks V cs) (φ : Phi) (w : World) : (part t (concs φ cs).toArray off).run P w = .ok (conc φ v) w ∧ v.ok V := by
  unfold partA at h
  obtain ⟨b, hb, h⟩ := Option.bind_eq_some_iff.1 h
  have hagg := run_agg hb w
  cases b with
  | false =>
    rw [nthL_eq] at h
    refine ⟨?_, oks_iff.1 hok v (List.mem_of_getElem? h)⟩
    simp [part, hagg, concs_eq, h]
  | true =>
    obtain ⟨k, hk, rfl⟩ := Option.map_eq_some_iff.1 h
    have hsz := run_size hk w
    refine ⟨?_, oks_iff.2 fun v hv => oks_iff.1 hok v (List.mem_of_mem_drop (List.mem_of_mem_take hv))⟩
    simp [part, hagg, hsz, conc, concs_eq, List.map_take, List.map_drop]

theorem OpW.field {n : Nat} {o : Oper} {t : TypeId} {x : Operand} {f : Nat} {y : Out} (ho : o.op = .field t x f) (h : (evField P env n t x f).run = some y) : OpW P nt env n L o y := by
  obtain ⟨v, hv, h⟩ := onEv_run h
  rcases onAgg_run h with ⟨cs, rfl, h⟩ | h
  · obtain ⟨u, hu, rfl⟩ := one_run h
    obtain ⟨fd, hfd, hu⟩ := Option.bind_eq_some_iff.1 hu
    obtain ⟨fs, hfs, hff⟩ := run_field hfd
    refine OpW.quiet fun φ V a w he hs => ?_
    obtain ⟨h1, h2⟩ := he.ev hv
    obtain ⟨h3, h4⟩ := part_sound hu h2 φ w
    refine ⟨?_, h4⟩
    simp [execOp, ho, Instr.field, run_underlying hfs, hff, h1, conc, asAgg, h3]
  · exact (bad_run h).elim

theorem OpW.makeFunc {n : Nat} {o : Oper} {f : Fn} {first cap : Array Operand} {y : Out} (ho : o.op = .makeFunc f first cap) (h : (evMakeFunc env n f first cap).run = some y) : OpW P nt env n L o y := by
  obtain ⟨u, hu, rfl⟩ := one_run h
  obtain ⟨va, hva, hu⟩ := Option.bind_eq_some_iff.1 hu
  obtain ⟨vb, hvb, hu⟩ := Option.bind_eq_some_iff.1 hu
  cases hu
  refine OpW.quiet fun φ V a w he hs => ?_
  obtain ⟨h1, h2⟩ := evAll_map he hva
  obtain ⟨h3, h4⟩ := evAll_map he hvb
  refine ⟨?_, h2, h4⟩
  have e1 : first.map a.eval = (concs φ va).toArray := Array.ext' (by rw [Array.toList_map, h1])
  have e2 : cap.map a.eval = (concs φ vb).toArray := Array.ext' (by rw [Array.toList_map, h3])
  simp [execOp, ho, Instr.makeFunc, e1, e2, conc]

theorem OpW.extract {n : Nat} {o : Oper} {x : Operand} {k : Nat} {y : Out} (ho : o.op = .extract x k) (h : (evExtract env n x k).run = some y) : OpW P nt env n L o y := by
  obtain ⟨v, hv, h⟩ := onEv_run h
  split at h
  · rename_i vs
    obtain ⟨u, hu, rfl⟩ := one_run h
    rw [nthL_eq] at hu
    refine OpW.quiet fun φ V a w he hs => ?_
    obtain ⟨h1, h2⟩ := he.ev hv
    refine ⟨?_, oks_iff.1 h2 u (List.mem_of_getElem? hu)⟩
    simp [execOp, ho, Instr.extract, h1, conc, concs_eq, hu]
  · exact (bad_run h).elim

end
end Go.Sx
