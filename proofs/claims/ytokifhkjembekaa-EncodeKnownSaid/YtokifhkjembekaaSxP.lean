/- The symbolic evaluator's soundness, thirteenth part: a region whose order is open. Conditions: none. -/
import Derived.Test.YtokifhkjembekaaSxO
namespace Go.Sx

/-- Two logs say the same of a block. -/
structure Same (x : Nat) (L L' : Log) : Prop where
  m : metaOf L x = metaOf L' x
  p : mapOf L x = mapOf L' x
  c : ∀ off, cellOf L x off = cellOf L' x off

/-- A log says nothing of a block. -/
structure Gone (x : Nat) (L : Log) : Prop where
  m : metaOf L x = none
  p : mapOf L x = none
  c : ∀ off, cellOf L x off = none

theorem Same.refl (x : Nat) (L : Log) : Same x L L := ⟨rfl, rfl, fun _ => rfl⟩
theorem Same.symm {x : Nat} {L L' : Log} (h : Same x L L') : Same x L' L := ⟨h.m.symm, h.p.symm, fun o => (h.c o).symm⟩
theorem Same.trans {x : Nat} {L L' L'' : Log} (h : Same x L L') (k : Same x L' L'') : Same x L L'' := ⟨h.m.trans k.m, h.p.trans k.p, fun o => (h.c o).trans (k.c o)⟩
theorem Same.tr {x : Nat} {L L' : Log} (h : Same x L L') : Tr L x ↔ Tr L' x := by unfold Tr; rw [h.m, h.p]
theorem Gone.tr {x : Nat} {L : Log} (h : Gone x L) : ¬ Tr L x := by unfold Tr; rw [h.m, h.p]; simp

theorem Same.skip {x : Nat} {L : Log} : ∀ {D : Log}, x ∉ locs D → Same x (D ++ L) L
  | [], _ => Same.refl x L
  | .wr i o v :: D, h => by
    simp only [locs, List.mem_cons, not_or] at h
    have ih := Same.skip (L := L) h.2
    exact ⟨by rw [List.cons_append, metaOf_wr]; exact ih.m, by rw [List.cons_append, mapOf_wr]; exact ih.p, fun off => by rw [List.cons_append, cellOf_wr, if_neg (Ne.symm h.1)]; exact ih.c off⟩
  | .new i ty k cells :: D, h => by
    simp only [locs, List.mem_cons, not_or] at h
    have ih := Same.skip (L := L) h.2
    exact ⟨by rw [List.cons_append, metaOf_new, if_neg (Ne.symm h.1)]; exact ih.m, by rw [List.cons_append, mapOf_new]; exact ih.p, fun off => by rw [List.cons_append, cellOf_new, if_neg (Ne.symm h.1)]; exact ih.c off⟩
  | .kill i :: D, h => by
    simp only [locs, List.mem_cons, not_or] at h
    have ih := Same.skip (L := L) h.2
    exact ⟨by rw [List.cons_append, metaOf_kill, if_neg (Ne.symm h.1)]; exact ih.m, by rw [List.cons_append, mapOf_kill, if_neg (Ne.symm h.1)]; exact ih.p, fun off => by rw [List.cons_append, cellOf_kill, if_neg (Ne.symm h.1)]; exact ih.c off⟩
  | .hide i o :: D, h => by
    simp only [locs, List.mem_cons, not_or] at h
    have ih := Same.skip (L := L) h.2
    exact ⟨by rw [List.cons_append, metaOf_hide]; exact ih.m, by rw [List.cons_append, mapOf_hide]; exact ih.p, fun off => by rw [List.cons_append, cellOf_hide, if_neg (Ne.symm h.1)]; exact ih.c off⟩
  | .map i es :: D, h => by
    simp only [locs, List.mem_cons, not_or] at h
    have ih := Same.skip (L := L) h.2
    exact ⟨by rw [List.cons_append, metaOf_map]; exact ih.m, by rw [List.cons_append, mapOf_map, if_neg (Ne.symm h.1)]; exact ih.p, fun off => by rw [List.cons_append, cellOf_map]; exact ih.c off⟩

theorem Same.cong {x : Nat} {L L' : Log} (h : Same x L L') : ∀ (D : Log), Same x (D ++ L) (D ++ L')
  | [] => h
  | .wr i o v :: D => by
    have ih := Same.cong h D
    exact ⟨by simp only [List.cons_append, metaOf_wr]; exact ih.m, by simp only [List.cons_append, mapOf_wr]; exact ih.p, fun off => by simp only [List.cons_append, cellOf_wr, ih.c off]⟩
  | .new i ty k cells :: D => by
    have ih := Same.cong h D
    exact ⟨by simp only [List.cons_append, metaOf_new, ih.m], by simp only [List.cons_append, mapOf_new]; exact ih.p, fun off => by simp only [List.cons_append, cellOf_new, ih.c off]⟩
  | .kill i :: D => by
    have ih := Same.cong h D
    exact ⟨by simp only [List.cons_append, metaOf_kill, ih.m], by simp only [List.cons_append, mapOf_kill, ih.p], fun off => by simp only [List.cons_append, cellOf_kill, ih.c off]⟩
  | .hide i o :: D => by
    have ih := Same.cong h D
    exact ⟨by simp only [List.cons_append, metaOf_hide]; exact ih.m, by simp only [List.cons_append, mapOf_hide]; exact ih.p, fun off => by simp only [List.cons_append, cellOf_hide, ih.c off]⟩
  | .map i es :: D => by
    have ih := Same.cong h D
    exact ⟨by simp only [List.cons_append, metaOf_map]; exact ih.m, by simp only [List.cons_append, mapOf_map, ih.p], fun off => by simp only [List.cons_append, cellOf_map]; exact ih.c off⟩

section
variable {P : Program} {φ φ' : Phi} {V V' V'' : Nat → Prop} {nt : Nat} {L L' : Log} {w w' : World}

theorem Sat.restrict {Lr : Log} (h : Sat φ V L w) (hr : ∀ x, Same x Lr L ∨ Gone x Lr) : Sat φ V Lr w := by
  have key : ∀ {x}, Tr Lr x → Same x Lr L := fun {x} ht => (hr x).resolve_right fun g => g.tr ht
  refine ⟨fun i off v hv => ?_, fun i off v hv => ?_, fun i m hm => ?_, fun i es hm => ?_, fun i j hi hj he => h.inj i j ((key hi).tr.1 hi) ((key hj).tr.1 hj) he⟩
  · rcases hr i with s | g
    · exact h.cell i off v (by rw [← s.c]; exact hv)
    · rw [g.c] at hv; cases hv
  · rcases hr i with s | g
    · rw [s.m]; exact h.ok i off v (by rw [← s.c]; exact hv)
    · rw [g.c] at hv; cases hv
  · rcases hr i with s | g
    · exact h.blk i m (by rw [← s.m]; exact hm)
    · rw [g.m] at hm; cases hm
  · rcases hr i with s | g
    · exact h.mp i es (by rw [← s.p]; exact hm)
    · rw [g.p] at hm; cases hm

theorem Sat.grow (h : Sat φ V L w) (hV : ∀ i, V i → V' i) : Sat φ V' L w :=
  ⟨h.cell, fun i off v hv => ⟨ok_mono hV v (h.ok i off v hv).1, (h.ok i off v hv).2⟩, fun i m hm => ⟨hV i (h.blk i m hm).1, (h.blk i m hm).2⟩,
    fun i es hm => ⟨hV i (h.mp i es hm).1, fun p hp => ok_mono hV _ ((h.mp i es hm).2.1 p hp), (h.mp i es hm).2.2⟩, h.inj⟩

theorem Step.grow (h : Step φ V L w φ' V' L' w') (hV : ∀ i, V' i → V'' i) : Step φ V L w φ' V'' L' w' :=
  ⟨h.ag, fun i hi => hV i (h.vs i hi), h.sat.grow hV, h.os, h.tape, h.output, h.size, h.blk, h.cel, h.new, h.keep⟩

theorem Step.same {L'' : Log} (h : Step φ V L w φ' V' L' w') (hs : ∀ x, Same x L'' L') : Step φ V L w φ' V' L'' w' :=
  ⟨h.ag, h.vs, h.sat.restrict fun x => .inl (hs x), h.os, h.tape, h.output, h.size, h.blk, h.cel, fun i hi => h.new i ((hs i).tr.1 hi), fun i m hm hk => by
    obtain ⟨k1, k2⟩ := h.keep i m hm hk
    exact ⟨by rw [(hs i).m]; exact k1, fun off hc => by rw [(hs i).c]; exact k2 off hc⟩⟩

theorem Sat.lt' (h : Sat φ V L w) {i : Nat} (ht : Tr L i) : (φ i).1 < w.heap.size := h.lt ht

/-- A step that was shown in a state of which less is known is a step in the whole state. -/
theorem Step.frame {Lr D : Log} (hs : Sat φ V L w) (h : Step φ V Lr w φ' V' (D ++ Lr) w') (hr : ∀ x, Same x Lr L ∨ Gone x Lr) (hD : ∀ x, x ∈ locs D → Same x Lr L)
    (h1 : ∀ x, x ∈ locs D → Same x L' (D ++ Lr)) (h2 : ∀ x, x ∉ locs D → Same x L' L) : Step φ V L w φ' V' L' w' := by
  have trs : ∀ {x}, Tr Lr x → Tr L x := fun {x} ht => by
    rcases hr x with s | g
    · exact s.tr.1 ht
    · exact absurd ht g.tr
  -- of each block: either what the step says holds of it, or it stood still
  have cls : ∀ x, Same x L' (D ++ Lr) ∨ (Gone x Lr ∧ Same x L' L) := fun x => by
    by_cases hx : x ∈ locs D
    · exact .inl (h1 x hx)
    · rcases hr x with s | g
      · exact .inl ((h2 x hx).trans (s.symm.trans (Same.skip hx).symm))
      · exact .inr ⟨g, h2 x hx⟩
  have still : ∀ x, Gone x Lr → Tr L x → w'.heap[(φ x).1]? = w.heap[(φ x).1]? := fun x g ht =>
    h.blk _ (hs.lt ht) fun i hi he => g.tr (by rw [← hs.inj i x (trs hi) ht he]; exact hi)
  have tr' : ∀ {x}, Tr L' x → (Same x L' (D ++ Lr) ∧ Tr (D ++ Lr) x) ∨ (Gone x Lr ∧ Same x L' L ∧ Tr L x) := fun {x} ht => by
    rcases cls x with s | ⟨g, s⟩
    · exact .inl ⟨s, s.tr.1 ht⟩
    · exact .inr ⟨g, s, s.tr.1 ht⟩
  have mixed : ∀ x y, Tr (D ++ Lr) x → Gone y Lr → Tr L y → (φ' x).1 = (φ' y).1 → x = y := fun x y hx g hy he => by
    have hvy := hs.valid hy
    rw [h.ag y hvy] at he
    rcases h.new x hx with ⟨hvx, htx⟩ | ⟨_, hge | ⟨j, hj, hej⟩⟩
    · rw [h.ag x hvx] at he; exact hs.inj x y (trs htx) hy he
    · have := hs.lt hy; omega
    · rw [hej] at he
      have := hs.inj j y (trs hj) hy he
      subst this
      exact absurd hj g.tr
  refine ⟨h.ag, h.vs, ⟨?_, ?_, ?_, ?_, ?_⟩, h.os, h.tape, h.output, h.size, fun b hb hn => h.blk b hb fun i hi => hn i (trs hi), ?_, ?_, ?_⟩
  · intro i off v hv
    rcases cls i with s | ⟨g, s⟩
    · exact h.sat.cell i off v (by rw [← s.c]; exact hv)
    · rw [s.c] at hv
      obtain ⟨hok, hm⟩ := hs.ok i off v hv
      have ht : Tr L i := .inl hm
      rw [conc_agree h.ag v hok, h.ag i (hs.valid ht)]
      rw [World.cell?_of_block (w := w) (still i g ht)]
      exact hs.cell i off v hv
  · intro i off v hv
    rcases cls i with s | ⟨g, s⟩
    · rw [s.m]; exact h.sat.ok i off v (by rw [← s.c]; exact hv)
    · rw [s.c] at hv
      obtain ⟨hok, hm⟩ := hs.ok i off v hv
      exact ⟨ok_mono h.vs v hok, by rw [s.m]; exact hm⟩
  · intro i m hm
    rcases cls i with s | ⟨g, s⟩
    · exact h.sat.blk i m (by rw [← s.m]; exact hm)
    · rw [s.m] at hm
      obtain ⟨hv, hb⟩ := hs.blk i m hm
      have ht : Tr L i := .inl (by rw [hm]; rfl)
      rw [h.ag i hv, still i g ht]
      exact ⟨h.vs i hv, hb⟩
  · intro i es hm
    rcases cls i with s | ⟨g, s⟩
    · exact h.sat.mp i es (by rw [← s.p]; exact hm)
    · rw [s.p] at hm
      obtain ⟨hv, hok, ents, clock, hb, hmap⟩ := hs.mp i es hm
      have ht : Tr L i := .inr (by rw [hm]; rfl)
      refine ⟨h.vs i hv, fun p hp => ok_mono h.vs _ (hok p hp), ents, clock, by rw [h.ag i hv, still i g ht]; exact hb, ?_⟩
      rw [hmap]
      exact List.map_congr_left fun p hp => by rw [conc_agree h.ag _ (hok p hp)]
  · intro x y hx hy he
    rcases tr' hx with ⟨_, tx⟩ | ⟨gx, _, tx⟩
    · rcases tr' hy with ⟨_, ty⟩ | ⟨gy, _, ty⟩
      · exact h.sat.inj x y tx ty he
      · exact mixed x y tx gy ty he
    · rcases tr' hy with ⟨_, ty⟩ | ⟨gy, _, ty⟩
      · exact (mixed y x ty gx tx he.symm).symm
      · rw [h.ag x (hs.valid tx), h.ag y (hs.valid ty)] at he
        exact hs.inj x y tx ty he
  · intro i m hm hk off hc
    rcases hr i with s | g
    · exact h.cel i m (by rw [s.m]; exact hm) hk off (by rw [s.c]; exact hc)
    · exact World.cell?_of_block (w := w) (still i g (.inl (by rw [hm]; rfl)))
  · intro i hi
    rcases tr' hi with ⟨_, ti⟩ | ⟨_, _, ti⟩
    · rcases h.new i ti with ⟨hv, ht⟩ | ⟨hv, hge | ⟨j, hj, he⟩⟩
      · exact .inl ⟨hv, trs ht⟩
      · exact .inr ⟨hv, .inl hge⟩
      · exact .inr ⟨hv, .inr ⟨j, trs hj, he⟩⟩
    · exact .inl ⟨hs.valid ti, ti⟩
  · intro i m hm hk
    by_cases hx : i ∈ locs D
    · have s := hD i hx
      obtain ⟨k1, k2⟩ := h.keep i m (by rw [s.m]; exact hm) hk
      refine ⟨by rw [(h1 i hx).m]; exact k1, fun off hc => ?_⟩
      rw [(h1 i hx).c]; exact k2 off (by rw [s.c]; exact hc)
    · exact ⟨by rw [(h2 i hx).m]; exact hm, fun off hc => by rw [(h2 i hx).c]; exact hc⟩

/-- Each entry of e says at most what e' says. -/
def PW (e e' : Env) : Prop := ∀ t, EVle (Env.get e t) (Env.get e' t)

theorem EVle.trans {a b c : EV} (h : EVle a b) (k : EVle b c) : EVle a c := by
  cases a with
  | val v =>
    obtain ⟨v1, rfl, r1⟩ := h
    obtain ⟨v2, rfl, r2⟩ := k
    exact ⟨v2, rfl, Rel.trans r1 r2⟩
  | undef => cases h; exact k
  | unk => trivial

theorem EnvOK.le {e e' : Env} {a : Act} (h : EnvOK φ V nt e' a) (hle : PW e e') : EnvOK φ V nt e a := by
  refine ⟨h.size, h.nd, fun t v hg => ?_, fun t hg => ?_⟩
  · have := hle t
    rw [hg] at this
    obtain ⟨v0, e1, e2⟩ := this
    obtain ⟨o1, o2⟩ := h.val t v0 e1
    exact ⟨by rw [e2.1]; exact o1, e2.2 _ o2⟩
  · have := hle t
    rw [hg] at this
    exact h.und t this

theorem OpW.le {e e' : Env} {n : Nat} {o : Oper} {r : Out} (h : OpW P nt e n L o r) (hle : PW e e') : OpW P nt e' n L o r :=
  ⟨h.1, fun φ V a w K Q hc he hs hK => h.2 φ V a w K Q hc (he.le hle) hs hK⟩

theorem get_put (e : Env) (dst : Option Tmp) (v : EV) (t : Nat) : Env.get (put e dst v) t = if dst = some t then v else Env.get e t := by
  cases dst with
  | none => rw [if_neg (by simp)]; rfl
  | some d =>
    show Env.get ((d, v) :: e) t = _
    rw [get_cons]
    by_cases h : d = t
    · rw [if_pos h, if_pos (by rw [h])]
    · rw [if_neg h, if_neg (by simpa using h)]

theorem PW.put {e e' : Env} (h : PW e e') (dst : Option Tmp) (v : EV) : PW (Sx.put e dst v) (Sx.put e' dst v) := fun t => by
  rw [get_put, get_put]
  split
  · exact EVle.refl v
  · exact h t

theorem hideEnv_mono {bs : List Nat} {i : Nat} {e e' : Env} (h : PW e e') : ∀ (os : List Oper) (k : Nat), PW (hideEnv bs i k os e) (hideEnv bs i k os e')
  | [], _ => h
  | o :: os, k => by
    have ih := hideEnv_mono (bs := bs) (i := i) h os (k + 1)
    simp only [hideEnv]
    cases beside bs i k with
    | true => exact ih.put _ _
    | false => exact ih

theorem hideEnv_or {bs : List Nat} {i : Nat} {e : Env} {t : Nat} : ∀ (os : List Oper) (k : Nat), Env.get (hideEnv bs i k os e) t = .unk ∨
    (Env.get (hideEnv bs i k os e) t = Env.get e t ∧ ∀ (j : Nat) (o : Oper), os[j]? = some o → beside bs i (k + j) = true → o.dst ≠ some t)
  | [], _ => .inr ⟨rfl, fun j o h => by simp at h⟩
  | o :: os, k => by
    have ih := hideEnv_or (bs := bs) (i := i) (e := e) (t := t) os (k + 1)
    simp only [hideEnv]
    cases hb : beside bs i k with
    | false =>
      refine ih.imp id fun ⟨h1, h2⟩ => ⟨h1, fun j o' ho hbj => ?_⟩
      cases j with
      | zero => rw [Nat.add_zero, hb] at hbj; cases hbj
      | succ j => exact h2 j o' ho (by rw [show k + 1 + j = k + (j + 1) from by omega]; exact hbj)
    | true =>
      show Env.get (put (hideEnv bs i (k + 1) os e) o.dst .unk) t = .unk ∨ (Env.get (put (hideEnv bs i (k + 1) os e) o.dst .unk) t = _ ∧ _)
      rw [get_put]
      by_cases hd : o.dst = some t
      · rw [if_pos hd]; exact .inl rfl
      · rw [if_neg hd]
        refine ih.imp id fun ⟨h1, h2⟩ => ⟨h1, fun j o' ho hbj => ?_⟩
        cases j with
        | zero => cases ho; exact hd
        | succ j => exact h2 j o' ho (by rw [show k + 1 + j = k + (j + 1) from by omega]; exact hbj)

theorem kills_spec {L : Log} {x : Nat} : ∀ (l : List Nat), (x ∈ l → Gone x (kills l L)) ∧ (x ∉ l → Same x (kills l L) L)
  | [] => ⟨fun h => (by cases h), fun _ => Same.refl x L⟩
  | y :: l => by
    obtain ⟨h1, h2⟩ := kills_spec (L := L) (x := x) l
    refine ⟨fun h => ?_, fun h => ?_⟩
    · by_cases e : y = x
      · exact ⟨by simp only [kills, metaOf_kill, if_pos e], by simp only [kills, mapOf_kill, if_pos e], fun off => by simp only [kills, cellOf_kill, if_pos e]⟩
      · have g := h1 ((List.mem_cons.1 h).resolve_left (Ne.symm e))
        exact ⟨by simp only [kills, metaOf_kill, if_neg e, g.m], by simp only [kills, mapOf_kill, if_neg e, g.p], fun off => by simp only [kills, cellOf_kill, if_neg e, g.c]⟩
    · simp only [List.mem_cons, not_or] at h
      have s := h2 h.2
      exact ⟨by simp only [kills, metaOf_kill, if_neg (Ne.symm h.1), s.m], by simp only [kills, mapOf_kill, if_neg (Ne.symm h.1), s.p], fun off => by simp only [kills, cellOf_kill, if_neg (Ne.symm h.1), s.c]⟩

theorem hideLog_or {bs : List Nat} {i : Nat} {L : Log} {x : Nat} : ∀ (ds : List (List Nat)) (k : Nat), Gone x (hideLog bs i k ds L) ∨ Same x (hideLog bs i k ds L) L
  | [], _ => .inr (Same.refl x L)
  | d :: ds, k => by
    have ih := hideLog_or (bs := bs) (i := i) (L := L) (x := x) ds (k + 1)
    simp only [hideLog]
    cases beside bs i k with
    | false => exact ih
    | true =>
      obtain ⟨h1, h2⟩ := kills_spec (L := hideLog bs i (k + 1) ds L) (x := x) d
      by_cases hx : x ∈ d
      · exact .inl (h1 hx)
      · have s := h2 hx
        refine ih.imp (fun g => ⟨?_, ?_, fun off => ?_⟩) fun s' => s.trans s'
        · exact s.m.trans g.m
        · exact s.p.trans g.p
        · exact (s.c off).trans (g.c off)

theorem hideLog_gone {bs : List Nat} {i : Nat} {L : Log} {x : Nat} : ∀ (ds : List (List Nat)) (k j : Nat), beside bs i (k + j) = true → x ∈ ds.getD j [] → Gone x (hideLog bs i k ds L)
  | [], _, j, _, hx => by simp at hx
  | d :: ds, k, j, hb, hx => by
    simp only [hideLog]
    cases j with
    | zero =>
      rw [Nat.add_zero] at hb
      rw [hb]
      exact (kills_spec d).1 (by simpa using hx)
    | succ j =>
      have ih := hideLog_gone (bs := bs) (i := i) (L := L) (x := x) ds (k + 1) j (by rw [show k + 1 + j = k + (j + 1) from by omega]; exact hb) (by simpa using hx)
      cases beside bs i k with
      | false => exact ih
      | true =>
        obtain ⟨h1, h2⟩ := kills_spec (L := hideLog bs i (k + 1) ds L) (x := x) d
        by_cases hxd : x ∈ d
        · exact h1 hxd
        · have s := h2 hxd
          exact ⟨s.m.trans ih.m, s.p.trans ih.p, fun off => (s.c off).trans (ih.c off)⟩

theorem hideLog_same {bs : List Nat} {i : Nat} {L : Log} {x : Nat} : ∀ (ds : List (List Nat)) (k : Nat), (∀ j, beside bs i (k + j) = true → x ∉ ds.getD j []) → Same x (hideLog bs i k ds L) L
  | [], _, _ => Same.refl x L
  | d :: ds, k, h => by
    have ih := hideLog_same (bs := bs) (i := i) (L := L) (x := x) ds (k + 1) fun j hb => by
      have := h (j + 1) (by rw [show k + (j + 1) = k + 1 + j from by omega]; exact hb)
      simpa using this
    simp only [hideLog]
    cases hb : beside bs i k with
    | false => exact ih
    | true =>
      have hx : x ∉ d := by have := h 0 (by rw [Nat.add_zero]; exact hb); simpa using this
      exact ((kills_spec d).2 hx).trans ih

/-- What was done at an operation. -/
structure Rec where
  dst : Option Tmp
  val : EV
  D : Log
  lo : Nat
  hi : Nat

def envM (S : Nat → Bool) : Nat → List Rec → Env → Env
  | _, [], e => e
  | k, r :: rs, e => envM S (k + 1) rs (bif S k then put e r.dst r.val else e)

def logM (S : Nat → Bool) : Nat → List Rec → Log → Log
  | _, [], L => L
  | k, r :: rs, L => logM S (k + 1) rs (bif S k then r.D ++ L else L)

theorem envM_agree {S S' : Nat → Bool} {t : Nat} : ∀ (rs : List Rec) (k : Nat) (e e' : Env), (∀ (j : Nat) (r : Rec), rs[j]? = some r → S (k + j) ≠ S' (k + j) → r.dst ≠ some t) → Env.get e t = Env.get e' t →
    Env.get (envM S k rs e) t = Env.get (envM S' k rs e') t
  | [], _, _, _, _, h => h
  | r :: rs, k, e, e', hd, h => by
    refine envM_agree rs (k + 1) _ _ (fun j r' hr hne => hd (j + 1) r' hr (by rw [show k + (j + 1) = k + 1 + j from by omega]; exact hne)) ?_
    have h0 := hd 0 r rfl
    rw [Nat.add_zero] at h0
    cases hS : S k <;> cases hS' : S' k
    · exact h
    · have := h0 (by rw [hS, hS']; simp)
      rw [cond_false, cond_true, get_put, if_neg this]; exact h
    · have := h0 (by rw [hS, hS']; simp)
      rw [cond_false, cond_true, get_put, if_neg this]; exact h
    · rw [cond_true, cond_true, get_put, get_put, h]

theorem logM_agree {S S' : Nat → Bool} {x : Nat} : ∀ (rs : List Rec) (k : Nat) (L L' : Log), (∀ (j : Nat) (r : Rec), rs[j]? = some r → S (k + j) ≠ S' (k + j) → x ∉ locs r.D) → Same x L L' →
    Same x (logM S k rs L) (logM S' k rs L')
  | [], _, _, _, _, h => h
  | r :: rs, k, L, L', hd, h => by
    refine logM_agree rs (k + 1) _ _ (fun j r' hr hne => hd (j + 1) r' hr (by rw [show k + (j + 1) = k + 1 + j from by omega]; exact hne)) ?_
    have h0 := hd 0 r rfl
    rw [Nat.add_zero] at h0
    cases hS : S k <;> cases hS' : S' k
    · exact h
    · exact h.trans (Same.skip (h0 (by rw [hS, hS']; simp))).symm
    · exact (Same.skip (h0 (by rw [hS, hS']; simp))).trans h
    · exact h.cong r.D

abbrev lt (m : Nat) : Nat → Bool := fun j => Nat.blt j m

theorem envM_stop {m : Nat} : ∀ (rs : List Rec) (k : Nat) (e : Env), m ≤ k → envM (lt m) k rs e = e
  | [], _, _, _ => rfl
  | r :: rs, k, e, h => by
    have : lt m k = false := by
      cases hb : lt m k with
      | false => rfl
      | true => have := blt_iff.1 hb; omega
    simp only [envM, this, cond_false]
    exact envM_stop rs (k + 1) e (by omega)

theorem logM_stop {m : Nat} : ∀ (rs : List Rec) (k : Nat) (L : Log), m ≤ k → logM (lt m) k rs L = L
  | [], _, _, _ => rfl
  | r :: rs, k, L, h => by
    have : lt m k = false := by
      cases hb : lt m k with
      | false => rfl
      | true => have := blt_iff.1 hb; omega
    simp only [logM, this, cond_false]
    exact logM_stop rs (k + 1) L (by omega)

theorem envM_append {m : Nat} (more : List Rec) : ∀ (rs : List Rec) (k : Nat) (e : Env), m ≤ k + rs.length → envM (lt m) k (rs ++ more) e = envM (lt m) k rs e
  | [], k, e, h => envM_stop more k e (by simpa using h)
  | r :: rs, k, e, h => envM_append more rs (k + 1) _ (by simp at h; omega)

theorem logM_append {m : Nat} (more : List Rec) : ∀ (rs : List Rec) (k : Nat) (L : Log), m ≤ k + rs.length → logM (lt m) k (rs ++ more) L = logM (lt m) k rs L
  | [], k, L, h => logM_stop more k L (by simpa using h)
  | r :: rs, k, L, h => logM_append more rs (k + 1) _ (by simp at h; omega)

theorem envM_at {m : Nat} {r : Rec} : ∀ (rs : List Rec) (k i : Nat) (e : Env), rs[i]? = some r → m = k + i → envM (lt (m + 1)) k rs e = put (envM (lt m) k rs e) r.dst r.val
  | [], _, i, _, h, _ => by simp at h
  | q :: rs, k, 0, e, h, hm => by
    cases h
    have h1 : lt (m + 1) k = true := blt_iff.2 (by omega)
    have h2 : lt m k = false := by
      cases hb : lt m k with
      | false => rfl
      | true => have := blt_iff.1 hb; omega
    simp only [envM, h1, h2, cond_true, cond_false]
    rw [envM_stop _ _ _ (by omega), envM_stop _ _ _ (by omega)]
  | q :: rs, k, i + 1, e, h, hm => by
    have h1 : lt (m + 1) k = true := blt_iff.2 (by omega)
    have h2 : lt m k = true := blt_iff.2 (by omega)
    simp only [envM, h1, h2]
    exact envM_at rs (k + 1) i _ h (by omega)

theorem logM_at {m : Nat} {r : Rec} : ∀ (rs : List Rec) (k i : Nat) (L : Log), rs[i]? = some r → m = k + i → logM (lt (m + 1)) k rs L = r.D ++ logM (lt m) k rs L
  | [], _, i, _, h, _ => by simp at h
  | q :: rs, k, 0, L, h, hm => by
    cases h
    have h1 : lt (m + 1) k = true := blt_iff.2 (by omega)
    have h2 : lt m k = false := by
      cases hb : lt m k with
      | false => rfl
      | true => have := blt_iff.1 hb; omega
    simp only [logM, h1, h2, cond_true, cond_false]
    rw [logM_stop _ _ _ (by omega), logM_stop _ _ _ (by omega)]
  | q :: rs, k, i + 1, L, h, hm => by
    have h1 : lt (m + 1) k = true := blt_iff.2 (by omega)
    have h2 : lt m k = true := blt_iff.2 (by omega)
    simp only [logM, h1, h2]
    exact logM_at rs (k + 1) i _ h (by omega)

end
end Go.Sx
