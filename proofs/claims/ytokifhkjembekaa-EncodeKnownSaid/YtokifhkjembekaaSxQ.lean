/- The symbolic evaluator's soundness, fourteenth part: a region whose order is open, the end. Conditions: none. -/
import Derived.Test.YtokifhkjembekaaSxP
namespace Go.Sx

theorem testBit_edgeBits {bs : List Nat} {j : Nat} : ∀ {es : List Edge}, (edgeBits bs es).testBit j = true → ∃ e ∈ es, Region.binds .any e = true ∧ (j = e.on ∨ isAhead bs j e.on = true)
  | [], h => by simp [edgeBits] at h
  | e :: es, h => by
    simp only [edgeBits] at h
    cases hb : Region.binds .any e with
    | false =>
      rw [hb] at h
      obtain ⟨e', h1, h2⟩ := testBit_edgeBits h
      exact ⟨e', List.mem_cons_of_mem _ h1, h2⟩
    | true =>
      rw [hb] at h
      simp only [cond_true, Nat.testBit_or, Bool.or_eq_true] at h
      rcases h with (h | h) | h
      · rw [Nat.testBit_two_pow] at h
        exact ⟨e, List.mem_cons_self, hb, .inl (by simpa using Eq.symm (of_decide_eq_true h))⟩
      · exact ⟨e, List.mem_cons_self, hb, .inr h⟩
      · obtain ⟨e', h1, h2⟩ := testBit_edgeBits h
        exact ⟨e', List.mem_cons_of_mem _ h1, h2⟩

theorem edgesOK_spec {bs : List Nat} : ∀ {os : List Oper} {k : Nat}, edgesOK bs k os = true → ∀ (j : Nat) (o : Oper), os[j]? = some o →
    (∀ e ∈ o.after.toList, Region.binds .any e = true → e.on < k + j) ∧ bs.getD (k + j) 0 = edgeBits bs o.after.toList
  | [], _, _, j, o, h => by simp at h
  | p :: os, k, h, j, o, ho => by
    simp only [edgesOK, Bool.and_eq_true] at h
    obtain ⟨⟨h1, h2⟩, h3⟩ := h
    cases j with
    | zero =>
      cases ho
      refine ⟨fun e he hb => ?_, Nat.eq_of_beq_eq_true h2⟩
      have := List.all_eq_true.1 h1 e he
      rw [hb] at this
      exact blt_iff.1 (by simpa using this)
    | succ j =>
      have := edgesOK_spec h3 j o ho
      rw [show k + (j + 1) = k + 1 + j from by omega]
      exact this

section
variable {bs : List Nat} {all : List Oper}

theorem ahead_edge (hE : edgesOK bs 0 all = true) {i j : Nat} {o : Oper} (ho : all[i]? = some o) (h : isAhead bs j i = true) :
    ∃ e ∈ o.after.toList, Region.binds .any e = true ∧ e.on < i ∧ (j = e.on ∨ isAhead bs j e.on = true) := by
  obtain ⟨h1, h2⟩ := edgesOK_spec hE i o ho
  rw [Nat.zero_add] at h1 h2
  unfold isAhead at h
  rw [h2] at h
  obtain ⟨e, g1, g2, g3⟩ := testBit_edgeBits h
  exact ⟨e, g1, g2, h1 e g1 g2, g3⟩

theorem ahead_lt (hE : edgesOK bs 0 all = true) : ∀ (i j : Nat), i < all.length → isAhead bs j i = true → j < i := by
  intro i
  induction i using Nat.strongRecOn with
  | _ i ih =>
    intro j hi h
    obtain ⟨e, _, _, hlt, hj⟩ := ahead_edge hE (List.getElem?_eq_getElem hi) h
    rcases hj with rfl | hj
    · exact hlt
    · exact Nat.lt_trans (ih e.on hlt j (by omega) hj) hlt

/-- What is done is closed under the edges. -/
def Closed (all : List Oper) (S : Nat → Bool) : Prop := ∀ (k : Nat) (o : Oper), S k = true → all[k]? = some o → ∀ e ∈ o.after.toList, Region.binds .any e = true → S e.on = true

theorem ahead_in (hE : edgesOK bs 0 all = true) {S : Nat → Bool} (hS : Closed all S) : ∀ (i j : Nat), i < all.length →
    (∀ o, all[i]? = some o → ∀ e ∈ o.after.toList, Region.binds .any e = true → S e.on = true) → isAhead bs j i = true → S j = true := by
  intro i
  induction i using Nat.strongRecOn with
  | _ i ih =>
    intro j hi hedge h
    have ho := List.getElem?_eq_getElem hi
    obtain ⟨e, h1, h2, hlt, hj⟩ := ahead_edge hE ho h
    have hSe := hedge _ ho e h1 h2
    rcases hj with rfl | hj
    · exact hSe
    · exact ih e.on hlt j (by omega) (fun o ho => hS e.on o hSe ho) hj

theorem beside_of (hE : edgesOK bs 0 all = true) {S : Nat → Bool} (hS : Closed all S) {i k : Nat} (hi : i < all.length) (hk : k < all.length) (hSi : S i = false)
    (hedge : ∀ o, all[i]? = some o → ∀ e ∈ o.after.toList, Region.binds .any e = true → S e.on = true) (hne : S k ≠ lt i k) : beside bs i k = true := by
  have hki : k ≠ i := by
    rintro rfl
    apply hne
    rw [hSi]
    cases hb : lt k k with
    | false => rfl
    | true => have := blt_iff.1 hb; omega
  have h1 : isAhead bs k i = false := by
    cases hb : isAhead bs k i with
    | false => rfl
    | true =>
      have hS' := ahead_in hE hS i k hi hedge hb
      have hlt := ahead_lt hE i k hi hb
      exact absurd (by rw [hS']; exact (blt_iff.2 hlt).symm) hne
  have h2 : isAhead bs i k = false := by
    cases hb : isAhead bs i k with
    | false => rfl
    | true =>
      have hlt := ahead_lt hE k i hk hb
      cases hSk : S k with
      | true =>
        have := ahead_in hE hS k i hk (fun o ho => hS k o hSk ho) hb
        rw [hSi] at this; cases this
      | false =>
        apply absurd _ hne
        rw [hSk]
        cases hb' : lt i k with
        | false => rfl
        | true => have := blt_iff.1 hb'; omega
  unfold beside
  rw [h1, h2]
  have : Nat.beq i k = false := by
    cases hb : Nat.beq i k with
    | false => rfl
    | true => exact absurd (Nat.eq_of_beq_eq_true hb).symm hki
  rw [this]; rfl

theorem apartN_spec {a b : List Nat} (h : apartN a b = true) : ∀ x, x ∈ a → x ∉ b := fun x hx hb => by
  have := List.all_eq_true.1 h x hx
  simp only [Bool.not_eq_true', memN, List.any_eq_false] at this
  exact this x hb (by simp)

theorem subN_spec {a b : List Nat} (h : subN a b = true) : ∀ x, x ∈ a → x ∈ b := fun x hx => by
  have := List.all_eq_true.1 h x hx
  simp only [memN, List.any_eq_true] at this
  obtain ⟨y, hy, he⟩ := this
  exact (Nat.eq_of_beq_eq_true he) ▸ hy

theorem pairsApart_lt {ds : List (List Nat)} (h : pairsApart bs ds all = true) {i k : Nat} (hi : i < all.length) (hk : k < i) (hb : isAhead bs k i = false) {oi ok : Oper} (hoi : all[i]? = some oi) (hok : all[k]? = some ok) :
    (∀ x, x ∈ ds.getD i [] → x ∉ ds.getD k []) ∧ ∀ d, oi.dst = some d → ok.dst ≠ some d := by
  have h1 := List.all_eq_true.1 h i (List.mem_range.2 hi)
  have h2 := List.all_eq_true.1 h1 k (List.mem_range.2 hk)
  rw [hb, Bool.false_or, Bool.and_eq_true] at h2
  refine ⟨apartN_spec h2.1, fun d hd hd' => ?_⟩
  have h3 := h2.2
  simp only [List.getD_eq_getElem?_getD, hoi, hok, Option.getD_some, hd, hd'] at h3
  simp at h3

theorem pairsApart_spec {ds : List (List Nat)} (h : pairsApart bs ds all = true) {i k : Nat} (hb : beside bs i k = true) {oi ok : Oper} (hoi : all[i]? = some oi) (hok : all[k]? = some ok) :
    (∀ x, x ∈ ds.getD i [] → x ∉ ds.getD k []) ∧ ∀ d, oi.dst = some d → ok.dst ≠ some d := by
  unfold beside at hb
  simp only [Bool.not_eq_true', Bool.or_eq_false_iff] at hb
  obtain ⟨hne, h1, h2⟩ := hb
  have hi := (List.getElem?_eq_some_iff.1 hoi).1
  have hk := (List.getElem?_eq_some_iff.1 hok).1
  rcases Nat.lt_trichotomy i k with hlt | heq | hgt
  · obtain ⟨g1, g2⟩ := pairsApart_lt h hk hlt h2 hok hoi
    exact ⟨fun x hx hx' => g1 x hx' hx, fun d hd hd' => g2 d hd' hd⟩
  · subst heq; simp at hne
  · exact pairsApart_lt h hi hgt h1 hoi hok

end

section
variable {P : Program} {nt : Nat} {bs : List Nat} {ds : List (List Nat)} {ops : Array Oper} {be : Env} {base : Log}

/-- What a guard says under what is known. -/
def Wants (nt : Nat) (ops : Array Oper) (e : Env) (o : Oper) (b : Bool) : Prop := ∀ φ V a, EnvOK φ V nt e a → Region.wanted o (yielded ops a.tmps) = b

theorem Wants.le {e e' : Env} {o : Oper} {b : Bool} (h : Wants nt ops e o b) (hle : PW e e') : Wants nt ops e' o b := fun φ V a he => h φ V a (he.le hle)

abbrev envK (bs : List Nat) (all : List Oper) (be : Env) (rs : List Rec) (k : Nat) : Env := hideEnv bs k 0 all (envM (lt k) 0 rs be)
abbrev logK (bs : List Nat) (ds : List (List Nat)) (base : Log) (rs : List Rec) (k : Nat) : Log := hideLog bs k 0 ds (logM (lt k) 0 rs base)

structure AtK (P : Program) (nt : Nat) (bs : List Nat) (ds : List (List Nat)) (ops : Array Oper) (be : Env) (base : Log) (rs : List Rec) (k : Nat) (r : Rec) (o : Oper) : Prop where
  dst : r.dst = o.dst
  loc : ∀ x ∈ locs r.D, x ∈ ds.getD k []
  run : (Wants nt ops (envK bs ops.toList be rs k) o true ∧ (∀ d, o.dst = some d → d < nt) ∧ ∃ v, r.val = evOf v ∧ OpW P nt (envK bs ops.toList be rs k) r.lo (logK bs ds base rs k) o (v, r.hi, r.D)) ∨
    (Wants nt ops (envK bs ops.toList be rs k) o false ∧ r.val = .undef ∧ r.D = [] ∧ r.hi = r.lo)

theorem AtK.append {rs more : List Rec} {k : Nat} {r : Rec} {o : Oper} (hk : k ≤ rs.length) (h : AtK P nt bs ds ops be base rs k r o) : AtK P nt bs ds ops be base (rs ++ more) k r o := by
  obtain ⟨h1, h2, h3⟩ := h
  refine ⟨h1, h2, ?_⟩
  simp only [envK, logK, envM_append more rs 0 be (m := k) (by omega), logM_append more rs 0 base (m := k) (by omega)]
  exact h3

structure Good (P : Program) (nt : Nat) (bs : List Nat) (ds : List (List Nat)) (ops : Array Oper) (be : Env) (base : Log) (n : Nat) (rs : List Rec) (cur : Nat) : Prop where
  le : n ≤ cur
  rng : ∀ (k : Nat) (r : Rec), rs[k]? = some r → n ≤ r.lo ∧ r.lo ≤ r.hi ∧ r.hi ≤ cur
  mono : ∀ (k l : Nat) (r q : Rec), k < l → rs[k]? = some r → rs[l]? = some q → r.hi ≤ q.lo
  at_ : ∀ (k : Nat) (r : Rec) (o : Oper), rs[k]? = some r → ops[k]? = some o → AtK P nt bs ds ops be base rs k r o

theorem snoc_get {α : Type} {rs : List α} {r q : α} {k : Nat} (h : (rs ++ [r])[k]? = some q) : rs[k]? = some q ∨ (k = rs.length ∧ q = r) := by
  rcases Nat.lt_trichotomy k rs.length with hlt | heq | hgt
  · rw [List.getElem?_append_left hlt] at h; exact .inl h
  · subst heq; simp at h; exact .inr ⟨rfl, h.symm⟩
  · rw [List.getElem?_append_right (by omega)] at h
    have : 1 ≤ k - rs.length := by omega
    rw [List.getElem?_eq_none (by simpa using this)] at h; cases h

theorem Good.snoc {n cur : Nat} {rs : List Rec} (h : Good P nt bs ds ops be base n rs cur) {r : Rec} {o : Oper} (ho : ops[rs.length]? = some o) (hlo : r.lo = cur) (hhi : cur ≤ r.hi)
    (hat : AtK P nt bs ds ops be base rs rs.length r o) : Good P nt bs ds ops be base n (rs ++ [r]) r.hi := by
  refine ⟨Nat.le_trans h.le hhi, fun k q hq => ?_, fun k l q q' hkl hq hq' => ?_, fun k q o' hq ho' => ?_⟩
  · rcases snoc_get hq with hq | ⟨_, rfl⟩
    · obtain ⟨a1, a2, a3⟩ := h.rng k q hq; exact ⟨a1, a2, Nat.le_trans a3 hhi⟩
    · rw [hlo]; exact ⟨h.le, hhi, Nat.le_refl _⟩
  · rcases snoc_get hq' with g' | ⟨hl, rfl⟩
    · rcases snoc_get hq with g | ⟨hk, rfl⟩
      · exact h.mono k l q q' hkl g g'
      · have := (List.getElem?_eq_some_iff.1 g').1; omega
    · rcases snoc_get hq with g | ⟨hk, rfl⟩
      · rw [hlo]; exact (h.rng k q g).2.2
      · omega
  · rcases snoc_get hq with hq | ⟨rfl, rfl⟩
    · exact (h.at_ k q o' hq ho').append (Nat.le_of_lt (List.getElem?_eq_some_iff.1 hq).1)
    · rw [ho] at ho'; cases ho'; exact hat.append (Nat.le_refl _)

def PW2 (e e' : Env) : Prop := PW e e' ∧ PW e' e

theorem drawGo_spec {call : CallF} (hcall : CallsOK P call) (hn : NoCount P) {n : Nat} : ∀ (rest : List Oper) (i : Nat) (st s : St) (rs : List Rec), (drawGo P call nt bs ds ops.toList be base rest i st).run = some s → rs.length = i →
    (∀ j, rest[j]? = ops[i + j]?) → Good P nt bs ds ops be base n rs st.2.1 → PW2 (app st.1 be) (envM (lt i) 0 rs be) → app st.2.2 base = logM (lt i) 0 rs base →
    ∃ RS, RS.length = i + rest.length ∧ Good P nt bs ds ops be base n RS s.2.1 ∧ PW2 (app s.1 be) (envM (lt RS.length) 0 RS be) ∧ app s.2.2 base = logM (lt RS.length) 0 RS base
  | [], i, st, s, rs, h, hlen, _, hg, he, hl => by
    cases Option.some.inj h
    subst hlen
    exact ⟨rs, by simp, hg, he, hl⟩
  | o :: rest, i, st, s, rs, h, hlen, hops, hg, he, hl => by
    have ho : ops[i]? = some o := by simpa using (hops 0).symm
    have hops' : ∀ j, rest[j]? = ops[i + 1 + j]? := fun j => by
      have := hops (j + 1)
      rw [show i + 1 + j = i + (j + 1) from by omega]; exact this
    have ih := drawGo_spec hcall hn (n := n) rest (i + 1)
    have snocE : ∀ (r : Rec), envM (lt (i + 1)) 0 (rs ++ [r]) be = put (envM (lt i) 0 rs be) r.dst r.val := fun r => by
      rw [envM_at (r := r) (rs ++ [r]) 0 i be (by rw [← hlen]; simp) (by omega), envM_append [r] rs 0 be (by omega)]
    have snocL : ∀ (r : Rec), logM (lt (i + 1)) 0 (rs ++ [r]) base = r.D ++ logM (lt i) 0 rs base := fun r => by
      rw [logM_at (r := r) (rs ++ [r]) 0 i base (by rw [← hlen]; simp) (by omega), logM_append [r] rs 0 base (by omega)]
    have hw1 : PW (hideEnv bs i 0 ops.toList (app st.1 be)) (envK bs ops.toList be rs i) := hideEnv_mono he.1 _ _
    have fin : ∀ RS : List Rec, RS.length = i + 1 + rest.length → RS.length = i + (o :: rest).length := fun RS h => by rw [h, List.length_cons]; omega
    have hgo : ∀ E : Env, PW2 (app E be) (envM (lt i) 0 rs be) → Wants nt ops (envK bs ops.toList be rs i) o true →
        ((drawDo P call nt bs ds ops.toList be base o i (E, st.2)).bind (drawGo P call nt bs ds ops.toList be base rest (i + 1))).run = some s →
        ∃ RS, RS.length = i + (o :: rest).length ∧ Good P nt bs ds ops be base n RS s.2.1 ∧ PW2 (app s.1 be) (envM (lt RS.length) 0 RS be) ∧ app s.2.2 base = logM (lt RS.length) 0 RS base := fun E hE hw h => by
      obtain ⟨st1, h1, h2⟩ := T.bind_run h
      unfold drawDo at h1
      obtain ⟨hd, h1⟩ := bif_run h1
      obtain ⟨r, hr, h1⟩ := T.bind_run h1
      obtain ⟨hsub, h1⟩ := bif_run h1
      cases Option.some.inj h1
      replace hr := T.at_run hr
      have hop := evAny_spec (nt := nt) hcall hn hr
      have hlt : ∀ d, o.dst = some d → d < nt := fun d hdd => by
        rw [hdd] at hd
        exact blt_iff.1 hd
      let rec_ : Rec := ⟨o.dst, evOf r.1, r.2.2, st.2.1, r.2.1⟩
      have hat : AtK P nt bs ds ops be base rs rs.length rec_ o := by
        refine ⟨rfl, fun x hx => by rw [hlen]; exact subN_spec hsub x hx, .inl ⟨by rw [hlen]; exact hw, hlt, r.1, rfl, ?_⟩⟩
        rw [hlen]
        simp only [logK]
        rw [← hl]
        exact OpW.le hop (hideEnv_mono hE.1 _ _)
      have hg' := Good.snoc (r := rec_) hg (by rw [hlen]; exact ho) rfl hop.1 hat
      obtain ⟨RS, r1, r2, r3, r4⟩ := ih _ s (rs ++ [rec_]) h2 (by simp [hlen]) hops' hg' (by
          rw [snocE]
          show PW2 (app (put E o.dst (evOf r.1)) be) _
          rw [put_app]
          exact ⟨hE.1.put _ _, hE.2.put _ _⟩) (by
          rw [snocL]
          show app (app r.2.2 st.2.2) base = _
          rw [app_assoc, hl, app_eq])
      exact ⟨RS, fin RS r1, r2, r3, r4⟩
    have hno : ∀ E : Env, PW2 (app E be) (envM (lt i) 0 rs be) → Wants nt ops (envK bs ops.toList be rs i) o false →
        (drawGo P call nt bs ds ops.toList be base rest (i + 1) (put E o.dst .undef, st.2)).run = some s →
        ∃ RS, RS.length = i + (o :: rest).length ∧ Good P nt bs ds ops be base n RS s.2.1 ∧ PW2 (app s.1 be) (envM (lt RS.length) 0 RS be) ∧ app s.2.2 base = logM (lt RS.length) 0 RS base := fun E hE hw h => by
      let rec_ : Rec := ⟨o.dst, .undef, [], st.2.1, st.2.1⟩
      have hat : AtK P nt bs ds ops be base rs rs.length rec_ o := ⟨rfl, fun x hx => (by cases hx), .inr ⟨by rw [hlen]; exact hw, rfl, rfl, rfl⟩⟩
      have hg' := Good.snoc (r := rec_) hg (by rw [hlen]; exact ho) rfl (Nat.le_refl _) hat
      obtain ⟨RS, r1, r2, r3, r4⟩ := ih _ s (rs ++ [rec_]) h (by simp [hlen]) hops' hg' (by
          rw [snocE]
          show PW2 (app (put E o.dst .undef) be) _
          rw [put_app]
          exact ⟨hE.1.put _ _, hE.2.put _ _⟩) (by
          rw [snocL]
          exact hl)
      exact ⟨RS, fin RS r1, r2, r3, r4⟩
    unfold drawGo at h
    simp only [] at h
    split at h
    · rename_i hgd
      exact hgo st.1 he (fun φ V a _ => by simp only [Region.wanted, hgd]) h
    · rename_i j want hgd
      split at h
      · exact (bad_run h).elim
      · rename_i t ht
        split at h
        · rename_i v hv
          replace h := onBool_run h
          rcases h with ⟨sy, b, rfl, h⟩ | h
          · have hy : Wants nt ops (hideEnv bs i 0 ops.toList (app st.1 be)) o (b == want) := fun φ V a he => by
              simp only [Region.wanted, hgd, yielded_val he ht hv]
              cases b <;> cases want <;> rfl
            replace hy := hy.le hw1
            cases sy with
            | false =>
              cases hbw : (b == want) with
              | true => rw [hbw] at h hy; exact hgo st.1 he hy h
              | false => rw [hbw] at h hy; exact hno st.1 he hy h
            | true =>
              have hget : Env.get (app st.1 be) t = .val (.s (.bool b)) := by
                rcases hideEnv_or (bs := bs) (i := i) (e := app st.1 be) (t := t) ops.toList 0 with hu | ⟨hu, _⟩
                · rw [hu] at hv; cases hv
                · rw [← hu]; exact hv
              have hre : ∀ c : Bool, b = c → PW2 (app ((t, .val (.c (.bool c))) :: st.1) be) (envM (lt i) 0 rs be) := fun c hc => by
                subst hc
                have hEV : ∀ u, EVle (Env.get ((t, .val (.c (.bool b))) :: app st.1 be) u) (Env.get (app st.1 be) u) ∧ EVle (Env.get (app st.1 be) u) (Env.get ((t, .val (.c (.bool b))) :: app st.1 be) u) := fun u => by
                  rw [get_cons]
                  by_cases e : t = u
                  · subst e
                    rw [if_pos rfl, hget]
                    exact ⟨⟨_, rfl, fun _ => rfl, fun _ _ => trivial⟩, ⟨_, rfl, fun _ => rfl, fun _ _ => trivial⟩⟩
                  · rw [if_neg e]; exact ⟨EVle.refl _, EVle.refl _⟩
                exact ⟨fun u => (hEV u).1.trans (he.1 u), fun u => (he.2 u).trans (hEV u).2⟩
              rcases T.br_run h with ⟨hb, h⟩ | ⟨hb, h⟩
              · rw [hb] at hy
                exact hgo _ (hre want (eq_of_beq hb)) hy h
              · rw [hb] at hy
                exact hno _ (hre (!want) (by cases b <;> cases want <;> first | rfl | (cases hb))) hy h
          · exact (bad_run h).elim
        · rename_i hv
          have hy : Wants nt ops (hideEnv bs i 0 ops.toList (app st.1 be)) o false := fun φ V a he => by
            simp only [Region.wanted, hgd, yielded_undef he ht hv]
            rfl
          exact hno st.1 he (hy.le hw1) h
        · exact (bad_run h).elim

end
end Go.Sx
