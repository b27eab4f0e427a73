/- The symbolic evaluator's soundness, ninth part: operations on maps, len, and any operation. Conditions: none. -/
import Derived.Test.YtokifhkjembekaaSxK
namespace Go.Sx
section
variable {P : Program} {φ φ' : Phi} {V V' : Nat → Prop} {nt : Nat} {env : Env} {a : Act} {L : Log} {w : World}

theorem OpW.makeMap {n : Nat} {o : Oper} {t : TypeId} (ho : o.op = .makeMap t none) : OpW P nt env n L o (some (.mp n), n + 1, [.map n []]) := by
  refine OpW.value (Nat.le_succ n) fun φ V a w hc he hs => ⟨_, _, ?_, Step.newMap hs hc, .inr ⟨Nat.le_refl _, Nat.lt_succ_self _⟩⟩
  simp [execOp, ho, Instr.makeMap, conc, up_same]

theorem keyD_spec {t : TypeId} {d : TypeDesc} (h : keyD P t = some d) : P.underlying t = some d ∧ (d = .bool ∨ (∃ k, d = .int k) ∨ d = .string) := by
  unfold keyD at h
  split at h
  · cases h; exact ⟨by assumption, .inl rfl⟩
  · cases h; exact ⟨by assumption, .inr (.inl ⟨_, rfl⟩)⟩
  · cases h; exact ⟨by assumption, .inr (.inr rfl)⟩
  · cases h

theorem findKey_now {kt : TypeId} {d : TypeDesc} (hu : P.underlying kt = some d) {k : Value} {es : List MapEntry} {r : Option (Nat × Value)} (h : Instr.findNow d k es 0 = some r) (w : World) : (Instr.findKey kt k es).run P w = .ok r w := by
  simp [Instr.findKey, run_underlying hu, h]

theorem OpW.insert {n : Nat} {o : Oper} {t : TypeId} {m k x : Operand} {y : Out} (ho : o.op = .insert t m k x) (h : (evInsert P env n L t m k x).run = some y) : OpW P nt env n L o y := by
  unfold evInsert at h
  split at h
  · rename_i kt et i key v hu hm hk hv
    replace h := T.opt_run h
    simp only [obind_eq, Option.bind_eq_some_iff] at h
    obtain ⟨d, hd, es, hes, ⟨pv, pb⟩, hp, h⟩ := h
    obtain ⟨hd, hdd⟩ := keyD_spec hd
    split at h
    · rename_i hpb
      simp only at hpb
      subst hpb
      cases h
      refine ⟨Nat.le_refl _, fun φ V a w K Q _ he hs hK => ?_⟩
      obtain ⟨hvi, hoks, ents, clock, hh, hent⟩ := hs.mp i es hes
      obtain ⟨_, g2, _⟩ := lookA_spec (zero := v) φ 0 hp hent
      obtain ⟨g3, _⟩ := g2 rfl
      have hm1 := (he.ev hm).1
      have hk1 := (he.ev hk).1
      obtain ⟨hv1, hvok⟩ := he.ev hv
      simp only [conc] at hm1 hk1 g3
      have hfk := findKey_now (P := P) hd g3
      have hck : (Instr.checkKey false 10000 kt key).run P w = .ok () w := run_checkKey hd hdd false key w
      have hget : ∀ w', w'.heap[(φ i).1]? = some (.map ents clock) → (getObj (φ i).1).run P w' = .ok (.map ents clock) w' := fun w' hw => by
        simp only [getObj, Sem.run, hw]
      have hset : (setObj (φ i).1 (.map (ents.push { key := key, val := conc φ v, born := clock }) (clock + 1))).run P w = .ok () { w with heap := w.heap.setIfInBounds (φ i).1 (.map (ents.push { key := key, val := conc φ v, born := clock }) (clock + 1)) } := by
        simp only [setObj, Sem.run, hh]
      have hop : (execOp a.eval o).run P w = .ok .skip { w with heap := w.heap.setIfInBounds (φ i).1 (.map (ents.push { key := key, val := conc φ v, born := clock }) (clock + 1)) } := by
        simp only [execOp, ho, Instr.mapUpdate, hm1, hk1, hv1, Sem.run_bind, run_underlying hu, Result.andThen_ok, hget w hh, hck, hfk, hset, Sem.run_pure]
      unfold Oper.wp
      rw [hop]
      simp only [Add.same] at hK
      refine hK φ _ undef (Step.setMap hs i es (es ++ [(key, v)]) hes (fun p hp => ?_) _ _ ?_) rfl
      · rcases List.mem_append.1 hp with h | h
        · exact hoks p h
        · simp at h; subst h; exact hvok
      · simp [hent]
    · cases h
  · exact (bad_run h).elim

theorem OpW.lookup {n : Nat} {o : Oper} {t : TypeId} {m k : Operand} {ok : Bool} {y : Out} (ho : o.op = .lookup t m k ok) (h : (evLookup P env n L t m k ok).run = some y) : OpW P nt env n L o y := by
  unfold evLookup at h
  split at h
  · rename_i kt et i key hu hm hk
    obtain ⟨u, hu', rfl⟩ := one_run h
    simp only [obind_eq, Option.bind_eq_some_iff, Option.map_eq_some_iff] at hu'
    obtain ⟨d, hd, es, hes, z, hz, ⟨pv, pb⟩, hp, hr⟩ := hu'
    obtain ⟨hd, hdd⟩ := keyD_spec hd
    refine OpW.quiet fun φ V a w he hs => ?_
    obtain ⟨hvi, hoks, ents, clock, hh, hent⟩ := hs.mp i es hes
    obtain ⟨g1, g2, g3⟩ := lookA_spec (zero := AV.of false z) φ 0 hp hent
    have hm1 := (he.ev hm).1
    have hk1 := (he.ev hk).1
    simp only [conc] at hm1
    have hck : (Instr.checkKey ents.isEmpty 10000 kt (conc φ key)).run P w = .ok () w := run_checkKey hd hdd _ _ w
    have hget : (getObj (φ i).1).run P w = .ok (.map ents clock) w := by simp only [getObj, Sem.run, hh]
    have hzero : (zeroValue et).run P w = .ok z w := by
      unfold zeroV? at hz
      obtain ⟨it, hit, hiz⟩ := Option.bind_eq_some_iff.1 hz
      simp [zeroValue, typeInfo, hit, hiz]
    have hokv : pv.ok V := g3 V (ok_of V false z) hoks
    have hfind : ∃ r : Option (Nat × Value), Instr.findNow d (conc φ key) ents.toList 0 = some r ∧ (match r with | some (_, v) => v = conc φ pv ∧ pb.val = true | none => conc φ pv = z ∧ pb.val = false) := by
      cases hb : pb.val with
      | true => obtain ⟨j, hj⟩ := g1 hb; exact ⟨_, hj, rfl, rfl⟩
      | false => obtain ⟨h1, h2⟩ := g2 hb; exact ⟨_, h1, by rw [h2, conc_of], rfl⟩
    obtain ⟨r, hr1, hr2⟩ := hfind
    have hfk := findKey_now (P := P) hd hr1 w
    refine ⟨?_, ?_⟩
    · cases r with
      | some q =>
        obtain ⟨j, v⟩ := q
        obtain ⟨rfl, hb⟩ := hr2
        cases ok with
        | true =>
          simp only [cond_true] at hr
          subst hr
          simp [execOp, ho, Instr.lookup, hm1, hk1, run_underlying hu, hget, hck, hfk, conc, concs, TB.conc_av, hb]
        | false =>
          simp only [cond_false] at hr
          subst hr
          simp [execOp, ho, Instr.lookup, hm1, hk1, run_underlying hu, hget, hck, hfk]
      | none =>
        obtain ⟨hz', hb⟩ := hr2
        cases ok with
        | true =>
          simp only [cond_true] at hr
          subst hr
          simp [execOp, ho, Instr.lookup, hm1, hk1, run_underlying hu, hget, hck, hfk, hzero, conc, concs, TB.conc_av, hb, hz']
        | false =>
          simp only [cond_false] at hr
          subst hr
          simp [execOp, ho, Instr.lookup, hm1, hk1, run_underlying hu, hget, hck, hfk, hzero, hz']
    · cases ok with
      | true => simp only [cond_true] at hr; subst hr; exact ⟨hokv, TB.ok_av _ _, trivial⟩
      | false => simp only [cond_false] at hr; subst hr; exact hokv
  · exact (bad_run h).elim

/-- What a call's evaluation says of the call. -/
def CallW (P : Program) (f : FuncId) (args : List AV) (n : Nat) (L : Log) (r : CR) : Prop :=
  n ≤ r.2.1 ∧ ∀ φ V w (Post : Ending → World → Prop), Clear V n r.2.1 → AV.oks V args → Sat φ V L w →
    (∀ φ' w', Step φ V L w φ' (Add V n r.2.1) (r.2.2 ++ L) w' → r.1.ok (Add V n r.2.1) → Post (.returned (conc φ' r.1)) w') → Calls P f (concs φ args).toArray w Post

def CallsOK (P : Program) (call : CallF) : Prop := ∀ f args n L r, (call f args n L).run = some r → CallW P f args n L r

/-- No function bears the one name that the model takes for itself. -/
def NoCount (P : Program) : Prop := ∀ (f : Nat) (fn : Func), P.funcs[f]? = some fn → (fn.name == "runtime.NumGoroutine") = false

theorem run_callFunc_body (hn : NoCount P) {f : FuncId} (h : hasBody P f = true) (args : Array Value) (w : World) : (callFunc f args).run P w = .ok (.enter f args) w := by
  unfold hasBody at h
  split at h
  · rename_i fn hf
    have hname := hn f fn hf
    have hb : fn.body.isNone = false := by cases hq : fn.body <;> simp_all
    simp only [callFunc, Sem.run_bind, run_program, Result.andThen_ok, hf]
    rw [if_neg (by rw [hname]; simp), if_neg (by rw [hb]; simp)]
    rfl
  · cases h

theorem OpW.len {n : Nat} {o : Oper} {c : Call} {t : TypeId} {x : Operand} {y : Out} (ho : o.op = .call c) (hc : c.callee = .builtin .len) (ha : c.args = #[x]) (ht : c.argTypes = #[t]) (h : (evLen P env n o t x).run = some y) : OpW P nt env n L o y := by
  have hp : ∀ {r : Out}, (one (evPure P env o) n).run = some r → OpW P nt env n L o r := fun h => OpW.pure (fun cs b => by rw [ho]; simp) h
  replace h := onEv_run h
  obtain ⟨v, hv, h⟩ := h
  replace h := onSlc_run h
  rcases h with ⟨i, len, rfl, h⟩ | h
  · split at h
    · rename_i e hu
      cases Option.some.inj h
      refine OpW.quiet fun φ V a w he hs => ⟨?_, trivial⟩
      have h1 := (he.ev hv).1
      simp only [conc] at h1
      simp [execOp, ho, resolve, hc, ha, ht, invoke, builtin, Builtin.len_, run_underlying hu, h1, conc, goInt]
    · exact (bad_run h).elim
  · exact hp h

theorem OpW.append {n : Nat} {o : Oper} {c : Call} {s x : Operand} {sT xT : TypeId} {y : Out} (ho : o.op = .call c) (hc : c.callee = .builtin .append) (ha : c.args = #[s, x]) (ht : c.argTypes = #[sT, xT])
    (h : (onEv env s (.bad "") fun s => onEv env x (.bad "") fun x => .opt (appendA P sT xT s x n L) : T Out).run = some y) : OpW P nt env n L o y := by
  replace h := onEv_run h
  obtain ⟨sv, hsv, h⟩ := h
  replace h := onEv_run h
  obtain ⟨xv, hxv, h⟩ := h
  replace h := T.opt_run h
  obtain ⟨v, hv, hn, hsound⟩ := append_sound (ty := o.type) h
  obtain ⟨r1, n', D⟩ := y
  simp only at hv hn hsound
  subst hv
  refine OpW.value hn fun φ V a w hcl he hs => ?_
  obtain ⟨h1, h1ok⟩ := he.ev hsv
  obtain ⟨h2, _⟩ := he.ev hxv
  obtain ⟨φ', w', hr, hst, hok⟩ := hsound φ V w hcl h1ok hs
  refine ⟨φ', w', ?_, hst, hok⟩
  simp only [execOp, ho, resolve, hc, ha, ht, invoke, builtin, Sem.run_bind, Sem.run_pure, Result.andThen_ok, List.map_toArray, List.map_cons, List.map_nil, h1, h2, hr]

theorem OpW.builtin {n : Nat} {o : Oper} {c : Call} {b : Builtin} {y : Out} (ho : o.op = .call c) (hc : c.callee = .builtin b) (h : (evBuiltin P env n L o b c.args.toList c.argTypes.toList).run = some y) : OpW P nt env n L o y := by
  have hp : ∀ {r : Out}, (one (evPure P env o) n).run = some r → OpW P nt env n L o r := fun h => OpW.pure (fun cs b => by rw [ho]; simp) h
  unfold evBuiltin at h
  split at h
  · split at h
    · rename_i s x sT xT ha ht
      exact OpW.append ho hc (by rw [← Array.toList_inj]; exact ha) (by rw [← Array.toList_inj]; exact ht) h
    · exact (bad_run h).elim
  · split at h
    · rename_i x t ha ht
      exact OpW.len ho hc (by rw [← Array.toList_inj]; exact ha) (by rw [← Array.toList_inj]; exact ht) h
    · exact (bad_run h).elim
  · exact hp h

theorem onFn_run {β : Type} {v : AV} {d : T β} {f : FuncId → List AV → List AV → T β} {y : β} (h : (v.onFn d f).run = some y) :
    (∃ g first cap, (∀ φ, conc φ v = .func (.func g) (concs φ first).toArray (concs φ cap).toArray) ∧ (∀ V, v.ok V → AV.oks V first ∧ AV.oks V cap) ∧ (f g first cap).run = some y) ∨ d.run = some y := by
  unfold AV.onFn at h
  split at h
  · exact .inl ⟨_, _, _, fun φ => rfl, fun V hV => hV, h⟩
  · rename_i g first cap
    have hc : ∀ (φ : Phi) (l : Array Value), (concs φ (l.toList.map (AV.of false))).toArray = l := fun φ l => by
      rw [concs_eq, List.map_map]
      have : (conc φ ∘ AV.of false) = id := by funext x; exact conc_of φ false x
      rw [this, List.map_id]
    have ho : ∀ (V : Nat → Prop) (l : Array Value), AV.oks V (l.toList.map (AV.of false)) := fun V l => by
      rw [oks_iff]; intro v hv
      obtain ⟨x, _, rfl⟩ := List.mem_map.1 hv
      exact ok_of V false x
    exact .inl ⟨_, _, _, fun φ => by rw [hc, hc]; rfl, fun V _ => ⟨ho V first, ho V cap⟩, h⟩
  · exact .inr h

theorem OpW.callee {call : CallF} (hcall : CallsOK P call) (hn : NoCount P) {n : Nat} {o : Oper} {c : Call} {y : Out} (ho : o.op = .call c) (h : (evCallee P call env n L o c).run = some y) : OpW P nt env n L o y := by
  unfold evCallee at h
  split at h
  · rename_i f hcf
    replace h := onEv_run h
    obtain ⟨fv, hfv, h⟩ := h
    replace h := onFn_run h
    rcases h with ⟨g, first, cap, hfc, hfok, h⟩ | h
    · split at h
      · rename_i vs hvs
        cases hb : hasBody P g with
        | false => rw [hb] at h; exact (bad_run h).elim
        | true =>
          rw [hb] at h
          simp only [cond_true] at h
          obtain ⟨r, hr, h⟩ := T.bind_run h
          cases Option.some.inj h
          rw [app_eq, app_eq] at hr
          obtain ⟨hle, hw⟩ := hcall _ _ _ _ _ hr
          refine ⟨hle, fun φ V a w K Q hcl he hs hK => ?_⟩
          obtain ⟨hf1, hf2⟩ := he.ev hfv
          obtain ⟨ha1, ha2⟩ := evAll_map he hvs
          obtain ⟨hk1, hk2⟩ := hfok V hf2
          have harg : c.args.map a.eval = (concs φ vs).toArray := Array.ext' (by rw [Array.toList_map, ha1])
          have hall : (concs φ first).toArray ++ (concs φ vs).toArray ++ (concs φ cap).toArray = (concs φ (first ++ (vs ++ cap))).toArray := by
            simp [concs_eq]
          have hop : (execOp a.eval o).run P w = .ok (.enter g (concs φ (first ++ (vs ++ cap))).toArray) w := by
            simp only [execOp, ho, resolve, hcf, Deferred.ofValue, hf1, hfc, harg, Sem.run_bind, Sem.run_pure, Result.andThen_ok, invoke, hall, run_callFunc_body hn hb]
          unfold Oper.wp
          rw [hop, Oper.upon_enter]
          refine hw φ V w _ hcl ?_ hs fun φ' w' hst hok => hK φ' w' _ hst ⟨rfl, hok⟩
          rw [oks_iff] at hk1 ha2 hk2 ⊢
          intro v hv
          rcases List.mem_append.1 hv with h | h
          · exact hk1 v h
          · rcases List.mem_append.1 h with h | h
            · exact ha2 v h
            · exact hk2 v h
      · exact (bad_run h).elim
    · exact (bad_run h).elim
  · rename_i b hcb
    exact OpW.builtin ho hcb h
  · exact (bad_run h).elim

theorem evAny_spec {call : CallF} (hcall : CallsOK P call) (hn : NoCount P) {n : Nat} {o : Oper} {y : Out} (h : (evAny P call env n L o).run = some y) : OpW P nt env n L o y := by
  unfold evAny at h
  split at h
  · exact OpW.move (.inl (by assumption)) h
  · exact OpW.move (.inr (by assumption)) h
  · exact OpW.pick (by assumption) h
  · exact OpW.alloc (by assumption) h
  · exact OpW.box (by assumption) h
  · exact OpW.build (by assumption) h
  · exact OpW.buildSlice (by assumption) h
  · exact OpW.load (by assumption) h
  · exact OpW.store (by assumption) h
  · exact OpW.nilCheck (by assumption) h
  · exact OpW.fieldAddr (by assumption) h
  · exact OpW.field (by assumption) h
  · exact OpW.indexAddr (by assumption) h
  · exact OpW.index (by assumption) h
  · exact OpW.slice (by assumption) h
  · exact OpW.makeFunc (by assumption) h
  · exact OpW.extract (by assumption) h
  · exact OpW.bin (by assumption) h
  · exact OpW.un (by assumption) h
  · exact OpW.convert (by assumption) h
  · cases Option.some.inj h; exact OpW.makeMap (by assumption)
  · exact OpW.insert (by assumption) h
  · exact OpW.lookup (by assumption) h
  · exact OpW.callee hcall hn (by assumption) h
  · exact (bad_run h).elim

end
end Go.Sx
