/- The symbolic evaluator's soundness, fifteenth part: open orders, put together. Conditions: none. -/
import Derived.Test.YtokifhkjembekaaSxQ
namespace Go.Sx
section
variable {P : Program} {nt : Nat} {bs : List Nat} {ds : List (List Nat)} {ops : Array Oper} {be : Env} {base : Log} {n cur : Nat} {RS : List Rec}

/-- The names that are good once the operations of S have run. -/
def VS (V : Nat → Prop) (RS : List Rec) (S : Nat → Bool) : Nat → Prop := fun x => V x ∨ ∃ (k : Nat) (r : Rec), S k = true ∧ RS[k]? = some r ∧ r.lo ≤ x ∧ x < r.hi

def setM (S : Nat → Bool) (i : Nat) : Nat → Bool := fun k => bif Nat.beq k i then true else S k

theorem setM_self (S : Nat → Bool) (i : Nat) : setM S i i = true := by simp [setM]
theorem setM_ne (S : Nat → Bool) {i k : Nat} (h : k ≠ i) : setM S i k = S k := by
  have : Nat.beq k i = false := by
    cases hb : Nat.beq k i with
    | false => rfl
    | true => exact absurd (Nat.eq_of_beq_eq_true hb) h
  simp [setM, this]

/-- What holds once the operations of S have run. -/
def InvS (nt : Nat) (be : Env) (base : Log) (RS : List Rec) (φ : Phi) (V : Nat → Prop) (w0 : World) (S : Nat → Bool) (a : Act) (w : World) : Prop :=
  ∃ φ', EnvOK φ' (VS V RS S) nt (envM S 0 RS be) a ∧ Step φ V base w0 φ' (VS V RS S) (logM S 0 RS base) w

theorem VS_set {V : Nat → Prop} {S : Nat → Bool} {i : Nat} {r : Rec} (hr : RS[i]? = some r) (hi : S i = false) : VS V RS (setM S i) = Add (VS V RS S) r.lo r.hi := by
  funext x
  simp only [VS, Add, eq_iff_iff]
  constructor
  · rintro (h | ⟨k, q, h1, h2, h3⟩)
    · exact .inl (.inl h)
    · by_cases e : k = i
      · subst e; rw [hr] at h2; cases h2; exact .inr h3
      · rw [setM_ne S e] at h1; exact .inl (.inr ⟨k, q, h1, h2, h3⟩)
  · rintro ((h | ⟨k, q, h1, h2, h3⟩) | h)
    · exact .inl h
    · have e : k ≠ i := fun e => by rw [e, hi] at h1; cases h1
      exact .inr ⟨k, q, by rw [setM_ne S e]; exact h1, h2, h3⟩
    · exact .inr ⟨i, r, setM_self S i, hr, h⟩

theorem VS_clear {V : Nat → Prop} {S : Nat → Bool} {i : Nat} {r : Rec} (hg : Good P nt bs ds ops be base n RS cur) (hc : Clear V n cur) (hr : RS[i]? = some r) (hi : S i = false) : Clear (VS V RS S) r.lo r.hi := by
  rintro x (h | ⟨k, q, h1, h2, h3, h4⟩)
  · obtain ⟨a1, a2, a3⟩ := hg.rng i r hr
    rcases hc x h with h | h
    · exact .inl (Nat.lt_of_lt_of_le h a1)
    · exact .inr (Nat.le_trans a3 h)
  · rcases Nat.lt_trichotomy k i with hlt | heq | hgt
    · exact .inl (Nat.lt_of_lt_of_le h4 (hg.mono k i q r hlt h2 hr))
    · subst heq; rw [hi] at h1; cases h1
    · exact .inr (Nat.le_trans (hg.mono i k r q hgt hr h2) h3)

/-- One more operation. -/
theorem InvS.next {φ : Phi} {V : Nat → Prop} {w0 : World} {S : Nat → Bool} {a : Act} {w : World} (hg : Good P nt bs ds ops be base n RS cur) (hlen : RS.length = ops.toList.length) (hE : edgesOK bs 0 ops.toList = true)
    (hds : ds.length = ops.toList.length) (hP : pairsApart bs ds ops.toList = true) (hs0 : Sat φ V base w0) (hc : Clear V n cur) (hS : Closed ops.toList S) {i : Nat} {o : Oper} (ho : ops[i]? = some o) (hi : S i = false)
    (hedge : ∀ e ∈ o.after.toList, Region.binds .any e = true → S e.on = true) (h : InvS nt be base RS φ V w0 S a w) {Q : Exit → Act → World → Prop} {K : Act → World → Prop}
    (hK : ∀ a w, InvS nt be base RS φ V w0 (setM S i) a w → K a w) : wpOp P ops Q i K a w := by
  obtain ⟨φ', he, hst⟩ := h
  have hoL : ops.toList[i]? = some o := by rw [Array.getElem?_toList]; exact ho
  have hil : i < ops.toList.length := (List.getElem?_eq_some_iff.1 hoL).1
  have hr : RS[i]? = some (RS[i]'(by rw [hlen]; exact hil)) := List.getElem?_eq_getElem _
  generalize RS[i]'(by rw [hlen]; exact hil) = r at hr
  obtain ⟨a1, a2, a3⟩ := hg.at_ i r o hr ho
  have hedge' : ∀ o', ops.toList[i]? = some o' → ∀ e ∈ o'.after.toList, Region.binds .any e = true → S e.on = true := fun o' ho' => by
    rw [hoL] at ho'; cases ho'; exact hedge
  -- where S and 'all before i' part, the operation stands beside i
  have hbes : ∀ (k : Nat) (q : Rec), RS[k]? = some q → S k ≠ lt i k → beside bs i k = true ∧ ∃ ok, ops.toList[k]? = some ok ∧ q.dst = ok.dst ∧ ∀ x ∈ locs q.D, x ∈ ds.getD k [] := fun k q hq hne => by
    have hk : k < ops.toList.length := by rw [← hlen]; exact (List.getElem?_eq_some_iff.1 hq).1
    have hok := List.getElem?_eq_getElem hk
    have hat := hg.at_ k q _ hq (by rw [← Array.getElem?_toList]; exact hok)
    exact ⟨beside_of hE hS hil hk hi hedge' hne, _, hok, hat.dst, hat.loc⟩
  -- the environment
  have hPW : PW (envK bs ops.toList be RS i) (envM S 0 RS be) := fun t => by
    rcases hideEnv_or (bs := bs) (i := i) (e := envM (lt i) 0 RS be) (t := t) ops.toList 0 with hu | ⟨hu, hd⟩
    · show EVle (Env.get (hideEnv _ _ _ _ _) t) _
      rw [hu]; trivial
    · show EVle (Env.get (hideEnv _ _ _ _ _) t) _
      rw [hu]
      rw [envM_agree (S := S) (S' := lt i) (t := t) RS 0 be be (fun k q hq hne => by
        rw [Nat.zero_add] at hne
        obtain ⟨hb, ok, hok, hdst, _⟩ := hbes k q hq hne
        rw [hdst]
        exact hd k ok hok (by rw [Nat.zero_add]; exact hb)) rfl]
      exact EVle.refl _
  -- the memory
  have hag : ∀ x, (∀ k, beside bs i k = true → x ∉ ds.getD k []) → Same x (logM (lt i) 0 RS base) (logM S 0 RS base) := fun x hx =>
    logM_agree RS 0 base base (fun k q hq hne => by
      rw [Nat.zero_add] at hne
      obtain ⟨hb, _, _, _, hloc⟩ := hbes k q hq (Ne.symm hne)
      exact fun hm => hx k hb (hloc x hm)) (Same.refl _ _)
  have hres : ∀ x, Same x (logK bs ds base RS i) (logM S 0 RS base) ∨ Gone x (logK bs ds base RS i) := fun x => by
    by_cases hx : ∃ k, beside bs i k = true ∧ x ∈ ds.getD k []
    · obtain ⟨k, hb, hm⟩ := hx
      exact .inr (hideLog_gone ds 0 k (by rw [Nat.zero_add]; exact hb) hm)
    · have hx' : ∀ k, beside bs i k = true → x ∉ ds.getD k [] := fun k hb hm => hx ⟨k, hb, hm⟩
      exact .inl ((hideLog_same ds 0 fun k hb => hx' k (by rw [Nat.zero_add] at hb; exact hb)).trans (hag x hx'))
  have hown : ∀ x, x ∈ ds.getD i [] → ∀ k, beside bs i k = true → x ∉ ds.getD k [] := fun x hx k hb hm => by
    rcases Nat.lt_or_ge k ops.toList.length with hk | hk
    · exact (pairsApart_spec hP hb hoL (List.getElem?_eq_getElem hk)).1 x hx hm
    · rw [List.getD_eq_getElem?_getD, List.getElem?_eq_none (by omega)] at hm
      cases hm
  have hD : ∀ x, x ∈ locs r.D → Same x (logK bs ds base RS i) (logM S 0 RS base) := fun x hx => by
    have hx' := hown x (a2 x hx)
    exact (hideLog_same ds 0 fun k hb => hx' k (by rw [Nat.zero_add] at hb; exact hb)).trans (hag x hx')
  -- masks with i and without it
  have hset : ∀ k, setM S i k ≠ S k → k = i := fun k hne => by
    by_cases e : k = i
    · exact e
    · exact absurd (setM_ne S e) hne
  have hset' : ∀ k, setM S i k ≠ lt (i + 1) k → k ≠ i ∧ S k ≠ lt i k := fun k hne => by
    have e : k ≠ i := fun e => hne (by rw [e, setM_self]; exact (blt_iff.2 (Nat.lt_succ_self i)).symm)
    refine ⟨e, fun h => hne ?_⟩
    rw [setM_ne S e, h]
    cases h1 : lt i k with
    | true => exact (blt_iff.2 (by have := blt_iff.1 h1; omega)).symm
    | false =>
      cases h2 : lt (i + 1) k with
      | false => rfl
      | true =>
        have := blt_iff.1 h2
        rw [show lt i k = true from blt_iff.2 (by omega)] at h1; cases h1
  have hput : PW (envM (setM S i) 0 RS be) (put (envM S 0 RS be) r.dst r.val) := fun t => by
    rw [get_put]
    by_cases hd : r.dst = some t
    · rw [if_pos hd]
      rw [envM_agree (S := setM S i) (S' := lt (i + 1)) (t := t) RS 0 be be (fun k q hq hne => by
        rw [Nat.zero_add] at hne
        obtain ⟨hb, ok, hok, hdst, _⟩ := hbes k q hq (hset' k hne).2
        rw [hdst]
        exact (pairsApart_spec hP hb hoL hok).2 t (by rw [← a1]; exact hd)) rfl]
      rw [envM_at RS 0 i be hr (by omega), get_put, if_pos hd]
      exact EVle.refl _
    · rw [if_neg hd]
      rw [envM_agree (S := setM S i) (S' := S) (t := t) RS 0 be be (fun k q hq hne => by
        rw [Nat.zero_add] at hne
        rw [hset k hne, hr] at hq; cases hq; exact hd) rfl]
      exact EVle.refl _
  have h2 : ∀ x, x ∉ locs r.D → Same x (logM (setM S i) 0 RS base) (logM S 0 RS base) := fun x hx =>
    logM_agree RS 0 base base (fun k q hq hne => by
      rw [Nat.zero_add] at hne
      rw [hset k hne, hr] at hq; cases hq; exact hx) (Same.refl _ _)
  have h1 : ∀ x, x ∈ locs r.D → Same x (logM (setM S i) 0 RS base) (r.D ++ logK bs ds base RS i) := fun x hx => by
    have hx' := hown x (a2 x hx)
    have s1 : Same x (logM (setM S i) 0 RS base) (logM (lt (i + 1)) 0 RS base) := logM_agree RS 0 base base (fun k q hq hne => by
      rw [Nat.zero_add] at hne
      obtain ⟨hb, _, _, _, hloc⟩ := hbes k q hq (hset' k hne).2
      exact fun hm => hx' k hb (hloc x hm)) (Same.refl _ _)
    rw [logM_at RS 0 i base hr (by omega)] at s1
    exact s1.trans ((hideLog_same ds 0 fun k hb => hx' k (by rw [Nat.zero_add] at hb; exact hb)).symm.cong r.D)
  have heR := he.le hPW
  unfold wpOp
  simp only [ho]
  rcases a3 with ⟨hw, hdlt, v, hval, hop⟩ | ⟨hw, hval, hDn, hhi⟩
  · rw [if_pos (hw _ _ _ heR)]
    refine .inl (hop.2 φ' (VS V RS S) a w K Q (VS_clear hg hc hr hi) heR (hst.sat.restrict hres) fun φ'' w'' x st'' hx => hK _ _ ⟨φ'', ?_, ?_⟩)
    · rw [VS_set hr hi]
      have hp := EnvOK.put (he.mono st''.ag st''.vs) hdlt hx
      refine hp.le ?_
      rw [a1, hval] at hput
      cases v <;> exact hput
    · rw [VS_set hr hi]
      exact Step.trans hs0 hst (Step.frame hst.sat st'' hres hD h1 h2)
  · rw [if_neg (by rw [hw _ _ _ heR]; decide)]
    refine hK _ _ ⟨φ', ?_, ?_⟩
    · rw [VS_set hr hi, hhi, Add.same]
      have hp := he.skip o.dst
      refine hp.le ?_
      rw [a1, hval] at hput
      exact hput
    · rw [VS_set hr hi, hhi, Add.same]
      exact hst.same fun x => h2 x (by rw [hDn]; exact fun h => by cases h)

/-- All orders of a region. -/
theorem wpAny_all_orders {φ : Phi} {V : Nat → Prop} {w0 : World} (hg : Good P nt bs ds ops be base n RS cur) (hlen : RS.length = ops.toList.length) (hE : edgesOK bs 0 ops.toList = true)
    (hds : ds.length = ops.toList.length) (hP : pairsApart bs ds ops.toList = true) (hs0 : Sat φ V base w0) (hc : Clear V n cur) {Q : Exit → Act → World → Prop}
    (hfin : ∀ S a w, (∀ k, k < RS.length → S k = true) → InvS nt be base RS φ V w0 S a w → Q .normal a w) :
    ∀ (fuel : Nat) (U : List Nat) (listed : Array Bool) (a : Act) (w : World), U.length ≤ fuel → listed.size = ops.size → (∀ k, k < ops.size → listed.getD k false = false → k ∈ U) →
      Closed ops.toList (fun k => listed.getD k false) → InvS nt be base RS φ V w0 (fun k => listed.getD k false) a w → wpAny P .any ops Q fuel listed a w := by
  have hsz : RS.length = ops.size := by rw [hlen]; simp
  have hdef : ∀ (listed : Array Bool), listed.size = ops.size → ∀ j, j < ops.size → listed.getD j true = listed.getD j false := fun listed hl j hj => by
    simp [Array.getD_eq_getD_getElem?, Array.getElem?_eq_getElem (show j < listed.size by omega)]
  -- none is ready: all are done
  have hdone : ∀ (listed : Array Bool), listed.size = ops.size → Region.ready .any ops listed = [] → ∀ k, k < ops.size → listed.getD k false = true := fun listed hl hr k => by
    induction k using Nat.strongRecOn with
    | _ k ih =>
      intro hk
      cases hk' : listed.getD k false with
      | true => rfl
      | false =>
        have hko := Array.getElem?_eq_getElem hk
        have : k ∈ Region.ready .any ops listed := mem_ready.2 ⟨by rw [hdef listed hl k hk]; exact hk', _, hko, fun e he hb => by
          have hlt := (edgesOK_spec hE k _ (by rw [Array.getElem?_toList]; exact hko)).1 e (Array.mem_toList_iff.2 he) hb
          rw [Nat.zero_add] at hlt
          exact ih e.on hlt (by omega)⟩
        rw [hr] at this; cases this
  intro fuel
  induction fuel with
  | zero =>
    intro U listed a w hU hl hun hcl hinv
    have hall : ∀ k, k < ops.size → listed.getD k false = true := fun k hk => by
      cases hk' : listed.getD k false with
      | true => rfl
      | false =>
        have := hun k hk hk'
        rw [List.length_eq_zero_iff.1 (Nat.le_zero.1 hU)] at this; cases this
    refine ⟨List.eq_nil_iff_forall_not_mem.2 fun j hj => ?_, hfin _ a w (fun k hk => hall k (by omega)) hinv⟩
    obtain ⟨h1, o, ho, _⟩ := mem_ready.1 hj
    have hjl := (Array.getElem?_eq_some_iff.1 ho).1
    rw [hdef listed hl j hjl, hall j hjl] at h1; cases h1
  | succ fuel ih =>
    intro U listed a w hU hl hun hcl hinv
    refine ⟨fun hr => hfin _ a w (fun k hk => hdone listed hl hr k (by omega)) hinv, fun i hi => ?_⟩
    obtain ⟨h1, o, ho, hedge⟩ := mem_ready.1 hi
    have hil := (Array.getElem?_eq_some_iff.1 ho).1
    rw [hdef listed hl i hil] at h1
    have hset : (fun k => (listed.setIfInBounds i true).getD k false) = setM (fun k => listed.getD k false) i := by
      funext k
      by_cases e : k = i
      · subst e
        rw [setM_self]
        simp [Array.getD_eq_getD_getElem?, hl, hil]
      · rw [setM_ne _ e]
        simp [Array.getD_eq_getD_getElem?, Array.getElem?_setIfInBounds_ne (Ne.symm e)]
    have hedge' : ∀ e ∈ o.after.toList, Region.binds .any e = true → listed.getD e.on false = true := fun e he hb => hedge e (Array.mem_toList_iff.1 he) hb
    refine InvS.next hg hlen hE hds hP hs0 hc hcl ho h1 hedge' hinv fun a' w' hinv' => ?_
    refine ih (U.erase i) (listed.setIfInBounds i true) a' w' ?_ (by simp [hl]) ?_ ?_ ?_
    · have hm := hun i hil h1
      have := List.length_erase_of_mem hm
      have hpos := List.length_pos_of_mem hm
      omega
    · intro k hk hk'
      have hk'' := congrFun hset k
      rw [show (listed.setIfInBounds i true).getD k false = setM (fun k => listed.getD k false) i k from hk''] at hk'
      have e : k ≠ i := fun e => by rw [e, setM_self] at hk'; cases hk'
      rw [setM_ne _ e] at hk'
      exact (List.mem_erase_of_ne e).2 (hun k hk hk')
    · rw [hset]
      intro k o' hk ho' e he hb
      by_cases ek : k = i
      · subst ek
        rw [Array.getElem?_toList, ho] at ho'; cases ho'
        by_cases ee : e.on = k
        · rw [ee, setM_self]
        · rw [setM_ne _ ee]; exact hedge' e he hb
      · rw [setM_ne _ ek] at hk
        by_cases ee : e.on = i
        · rw [ee, setM_self]
        · rw [setM_ne _ ee]; exact hcl k o' hk ho' e he hb
    · rw [hset]; exact hinv'

theorem drawEv_spec (hm : P.follows .mixedOrders = true) (hn : NoCount P) : DrawsOK P (drawEv P) := by
  intro call hcall nt id be base ops n s h
  unfold drawEv at h
  simp only [] at h
  obtain ⟨hck, h⟩ := bif_run h
  simp only [Bool.and_eq_true] at hck
  obtain ⟨hE, hds, hP⟩ := hck
  replace hds := Nat.eq_of_beq_eq_true hds
  rw [lenL_eq, lenL_eq] at hds
  obtain ⟨RS, r1, r2, r3, r4⟩ := drawGo_spec (nt := nt) hcall hn (n := n) ops.toList 0 ([], n, []) s [] h rfl (fun j => by rw [Nat.zero_add, Array.getElem?_toList])
    ⟨Nat.le_refl _, fun k r h => (by simp at h), fun k l r q _ h => (by simp at h), fun k r o h => (by simp at h)⟩ ⟨fun t => EVle.refl _, fun t => EVle.refl _⟩ rfl
  rw [Nat.zero_add] at r1
  refine ⟨r2.le, fun φ V a w Q hc he hs hK => wp_region_any hm ?_⟩
  have hs' : Sat φ V base { w with drawn := w.drawn + 1 } := ⟨hs.cell, hs.ok, hs.blk, hs.mp, hs.inj⟩
  have hst' : Step φ V base w φ V base { w with drawn := w.drawn + 1 } := ⟨fun _ _ => rfl, fun _ h => h, hs', rfl, rfl, rfl, Nat.le_refl _, fun _ _ _ => rfl, fun _ _ _ _ _ _ => rfl, fun _ hi => .inl ⟨hs'.valid hi, hi⟩, fun _ _ hm _ => ⟨hm, fun _ h => h⟩⟩
  have hempty : ∀ k, (Array.replicate ops.size false).getD k false = false := fun k => by
    rw [Array.getD_eq_getD_getElem?, Array.getElem?_replicate]
    split <;> rfl
  have hfalse : (fun k => (Array.replicate ops.size false).getD k false) = fun _ => false := funext hempty
  refine wpAny_all_orders (φ := φ) (V := V) (w0 := { w with drawn := w.drawn + 1 }) r2 r1 hE hds hP hs' hc (fun S a' w' hall hinv => ?_) ops.size (List.range ops.size) _ a _ (by simp) (by simp) (fun k hk _ => List.mem_range.2 hk) ?_ ?_
  · obtain ⟨φ', he', st'⟩ := hinv
    have hmask : ∀ (k : Nat) (r : Rec), RS[k]? = some r → S k = lt RS.length k := fun k r hk => by
      have hkl := (List.getElem?_eq_some_iff.1 hk).1
      rw [hall k hkl]; exact (blt_iff.2 hkl).symm
    have hV : ∀ x, VS V RS S x → Add V n s.2.1 x := fun x hx => by
      rcases hx with hx | ⟨k, r, _, h2, h3, h4⟩
      · exact .inl hx
      · obtain ⟨b1, b2, b3⟩ := r2.rng k r h2
        exact .inr ⟨Nat.le_trans b1 h3, Nat.lt_of_lt_of_le h4 b3⟩
    refine hK φ' a' w' ?_ ?_
    · rw [r4]
      refine Step.trans hs hst' ((st'.grow hV).same fun x => ?_)
      exact logM_agree RS 0 base base (fun k r hk hne => absurd (by rw [Nat.zero_add]; exact (hmask k r hk).symm) hne) (Same.refl _ _)
    · refine (he'.mono (fun _ _ => rfl) hV).le fun t => (r3.1 t).trans ?_
      rw [envM_agree (S := lt RS.length) (S' := S) (t := t) RS 0 be be (fun k r hk hne => absurd (by rw [Nat.zero_add]; exact (hmask k r hk).symm) hne) rfl]
      exact EVle.refl _
  · rw [hfalse]; intro k o hk; cases hk
  · rw [hfalse]
    have hVS : VS V RS (fun _ => false) = V := by
      funext x
      simp [VS]
    have hE0 : ∀ (rs : List Rec) (k : Nat) (e : Env), envM (fun _ => false) k rs e = e := fun rs => by
      induction rs with
      | nil => intro k e; rfl
      | cons r rs ih => intro k e; exact ih (k + 1) e
    have hL0 : ∀ (rs : List Rec) (k : Nat) (L : Log), logM (fun _ => false) k rs L = L := fun rs => by
      induction rs with
      | nil => intro k e; rfl
      | cons r rs ih => intro k e; exact ih (k + 1) e
    refine ⟨φ, ?_, ?_⟩
    · rw [hVS, hE0]; exact he
    · rw [hVS, hL0]; exact Step.refl hs'

end
end Go.Sx
