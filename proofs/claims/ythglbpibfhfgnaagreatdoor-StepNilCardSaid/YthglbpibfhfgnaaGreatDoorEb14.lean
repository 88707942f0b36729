/-
The closed evaluator: regions that draw their order, run.
-/
import Derived.Test.YthglbpibfhfgnaaGreatDoorEbFly
set_option linter.unusedVariables false
set_option linter.unusedSimpArgs false
namespace Go.Eb
variable {A : Type} {P : Program} {w0 : World} {g : Env} {F : Fr} {M : Mm} {n m : Nat} {a : Act} {w : World} {r : A} {ops : Array Oper} {ps : List Pre} {D must : Nat} {listed : Array Bool}

theorem ready_iff (hs : listed.size = ops.size) {i : Nat} : i ∈ Region.ready .any ops listed ↔ ∃ o, ops[i]? = some o ∧ ¬ Lst listed i ∧ ∀ e ∈ bindOn o, Lst listed e := by
  unfold Region.ready bindOn Lst
  rw [List.mem_filter, List.mem_range]
  constructor
  · rintro ⟨hi, h⟩
    have ho : ops[i]? = some ops[i] := Array.getElem?_eq_getElem hi
    have hl : listed[i]? = some listed[i] := Array.getElem?_eq_getElem (by omega)
    rw [ho] at h
    simp only [Bool.and_eq_true, Option.map_some, Option.getD_some, Array.all_eq_true_iff_forall_mem, Bool.or_eq_true, Array.getD_eq_getD_getElem?] at h
    refine ⟨_, ho, ?_, fun e he => ?_⟩
    · have := h.1
      rw [hl] at this ⊢
      simpa using this
    · obtain ⟨x, hx, rfl⟩ := List.mem_map.1 he
      rw [List.mem_filter] at hx
      have := h.2 x (by simpa using hx.1)
      rw [hx.2] at this
      simp only [Bool.not_true, Bool.false_eq_true, false_or] at this
      cases hl : listed[x.on]? with
      | none => rw [hl] at this; cases this
      | some b => rw [hl] at this; have : b = true := this; rw [this]
  · rintro ⟨o, ho, hl, hb⟩
    have hi : i < ops.size := (Array.getElem?_eq_some_iff.1 ho).1
    have hl' : listed[i]? = some listed[i] := Array.getElem?_eq_getElem (by omega)
    refine ⟨hi, ?_⟩
    rw [ho]
    simp only [Bool.and_eq_true, Option.map_some, Option.getD_some, Array.all_eq_true_iff_forall_mem, Bool.or_eq_true, Array.getD_eq_getD_getElem?]
    refine ⟨?_, fun x hx => ?_⟩
    · rw [hl'] at hl ⊢
      simpa using hl
    · cases hbx : Region.binds .any x with
      | false => exact .inl rfl
      | true => exact .inr (by rw [hb x.on (List.mem_map.2 ⟨x, List.mem_filter.2 ⟨by simpa using hx, hbx⟩, rfl⟩)]; rfl)
theorem all_done (ok : PsOk P ops.toList ps) (hs : listed.size = ops.size) (hr : Region.ready .any ops listed = []) : ∀ i, i < ops.size → Lst listed i := by
  intro i
  induction i using Nat.strongRecOn with
  | ind i ih =>
    intro hi
    apply Classical.byContradiction
    intro hn
    obtain ⟨p, hp, rfl⟩ := ok.full i (by simpa using hi)
    have ho := ok.at' hp
    rw [Array.getElem?_toList] at ho
    obtain ⟨_, hea⟩ := ok.each
    have : p.i ∈ Region.ready .any ops listed := (ready_iff hs).2 ⟨p.o, ho, hn, fun e he => ih e ((hea p hp).lt e he) (by have := (hea p hp).lt e he; omega)⟩
    rw [hr] at this
    cases this
theorem count_done {i : Nat} (hi : i < listed.size) (hn : ¬ Lst listed i) : (listed.setIfInBounds i true).toList.count false + 1 = listed.toList.count false := by
  have hl : listed[i]? = some listed[i] := Array.getElem?_eq_getElem hi
  have hf : listed[i] = false := by
    unfold Lst at hn; rw [hl] at hn; simpa using hn
  have hi' : i < listed.toList.length := by simpa using hi
  rw [Array.toList_setIfInBounds, List.count_set hi']
  have h1 : listed.toList[i] = false := by simpa using hf
  have : false ∈ listed.toList := h1 ▸ List.getElem_mem hi'
  have hpos := List.count_pos_iff.2 this
  rw [h1]
  simp only [beq_self_eq_true, if_true, show (true == false) = false from rfl, Bool.false_eq_true, if_false, Nat.add_zero]
  omega
theorem count_none (hs : listed.size = ops.size) (h : listed.toList.count false = 0) : ∀ i, i < ops.size → Lst listed i := fun i hi => by
  have hl : listed[i]? = some listed[i] := Array.getElem?_eq_getElem (by omega)
  unfold Lst
  rw [hl]
  cases hb : listed[i] with
  | true => rfl
  | false =>
    have : false ∈ listed.toList := by rw [← hb]; simp
    exact absurd h (by have := List.count_pos_iff.2 this; omega)

theorem noCall_good (hG : GlobOk P w0) : CallGood P w0 (noCall : CallT V) := ⟨hG, fun _ _ _ _ _ _ _ _ _ h => by cases h⟩
theorem recheck_some {all : List Oper} {K : Option A} : ∀ {re : List Oper}, recheck P all F M n re K = some r → K = some r ∧ ∀ o ∈ re, ∃ v, stillD P all o F M n = some v ∧ ∀ d, o.dst = some d → ∃ u, F.get d = some u ∧ sameV v u = true
  | [], h => ⟨h, by simp⟩
  | o :: re, h => by
    have h : ob (stillD P all o F M n) (fun v => match o.dst with
      | some d => ob (F.get d) fun u => bb (sameV v u) (recheck P all F M n re K)
      | none => recheck P all F M n re K) = some r := h
    replace h := ob_some h; obtain ⟨v, hv, h⟩ := h
    have key : recheck P all F M n re K = some r ∧ ∀ d, o.dst = some d → ∃ u, F.get d = some u ∧ sameV v u = true := by
      split at h
      · rename_i d hd
        replace h := ob_some h; obtain ⟨u, hu, h⟩ := h
        replace h := bb_some h; obtain ⟨hs, h⟩ := h
        exact ⟨h, fun e he => by rw [hd] at he; injection he with he; subst he; exact ⟨u, hu, hs⟩⟩
      · rename_i hd
        exact ⟨h, fun e he => by rw [hd] at he; cases he⟩
    obtain ⟨h1, h2⟩ := recheck_some key.1
    exact ⟨h1, fun x hx => by
      rcases List.mem_cons.1 hx with rfl | hx
      · exact ⟨v, hv, key.2⟩
      · exact h2 x hx⟩

/-- New memory on the way. -/
structure Fly (P : Program) (ops : Array Oper) (ps : List Pre) (listed : Array Bool) (D must n0 : Nat) (pd : List (Nat × Blk)) (pend : List Nat) (g : Env) (F : Fr) (M : Mm) (w : World) (base : Nat) : Prop where
  down : Down ops.toList (fun i => tb D i = true)
  free : ∀ i, i < ops.size → ¬ Lst listed i → g (n0 + i) = none
  top : n0 + ops.size ≤ g.top
  nodup : pend.Nodup
  each : ∀ i ∈ pend, ∃ p ∈ ps, p.i = i ∧ p.fl = true ∧ tb D i = true ∧ tb must i = false ∧ ∃ v b, findB i pd = some b ∧ fltD P F (n0 + i) p.o.op = some (v, b) ∧ ∀ d, p.o.dst = some d → F.get d = some v
  full : ∀ p ∈ ps, p.fl = true → tb D p.i = true → Lst listed p.i ∨ p.i ∈ pend
  park : Park n0 pd g M w base (fun i => i ∈ pend ∧ Lst listed i)

theorem down_bt (ok : PsOk P ops.toList ps) (hd : Down ops.toList (fun i => tb D i = true)) {q : Pre} (hq : q ∈ ps) (hb : sub q.b D = true) : Down ops.toList (fun i => tb (bt D q.i) i = true) := fun i o ho hi e he => by
  have hi : tb (bt D q.i) i = true := hi
  show tb (bt D q.i) e = true
  rw [bt_bit, Bool.or_eq_true, decide_eq_true_eq] at hi ⊢
  refine .inl ?_
  rcases hi with hi | rfl
  · exact hd i o ho hi e he
  · have := ok.at' hq
    rw [this] at ho; injection ho with ho; subst ho
    obtain ⟨_, hea⟩ := ok.each
    exact sub_bit hb (((hea q hq).b e).2 he)
/-- What was made stands as it is told. -/
theorem flt_keep (ok : PsOk P ops.toList ps) (hd : Down ops.toList (fun i => tb D i = true)) {p q : Pre} (hp : p ∈ ps) (hfl : p.fl = true) (hpD : tb D p.i = true) (hq : q ∈ ps) (hqD : tb D q.i = false) {F' : Fr} {u : V} (hF : F' = F ∨ ∃ d, q.o.dst = some d ∧ d < m ∧ F' = F.set d (some u)) {id : Nat} {v : V} {b : Blk}
    (h1 : fltD P F id p.o.op = some (v, b)) (h2 : ∀ d, p.o.dst = some d → F.get d = some v) : fltD P F' id p.o.op = some (v, b) ∧ ∀ d, p.o.dst = some d → F'.get d = some v := by
  rcases hF with rfl | ⟨d, hdst, _, rfl⟩
  · exact ⟨h1, h2⟩
  · obtain ⟨k1, k2, k3⟩ := ok.flt p hp hfl q hq d hdst
    obtain ⟨_, hea⟩ := ok.each
    refine ⟨(fltD_congr fun t ht => ?_).trans h1, fun e he => ?_⟩
    · rw [T.get_set_is k1]
      split
      · rename_i e
        subst e
        have h3 := (hea p hp).a _ hd (fun e he => hd _ _ (ok.at' hp) hpD e he) _ (k2 (tmps_mem ht))
        rw [hqD] at h3; cases h3
      · rfl
    · rw [T.get_set_is k1]
      split
      · rename_i e'
        subst e'
        have h3 := k3 he
        rw [h3, hqD] at hpD; cases hpD
      · exact h2 e he
theorem still_flt (ok : PsOk P ops.toList ps) {p : Pre} (hp : p ∈ ps) (h : p.st = true) : p.fl = false := by
  obtain ⟨_, hea⟩ := ok.each
  rw [(hea p hp).st] at h
  rw [(hea p hp).fl]
  have h := stays_still h
  cases hf : isFlt p.o with
  | false => simp
  | true =>
    unfold isFlt at hf
    simp only [Bool.and_eq_true] at hf
    have hf := hf.2
    split at hf
    · rename_i ho; rw [ho] at h; cases h
    · rename_i ho; rw [ho] at h; cases h
    · rename_i ho; rw [ho] at h; cases h
    · cases hf

section
variable {n0 base : Nat} {pd : List (Nat × Blk)} {pend : List Nat}
theorem Fly.ahead (h : Fly P ops ps listed D must n0 pd pend g F M w base) (ok : PsOk P ops.toList ps) {q : Pre} (hq : q ∈ ps) (hst : q.st = true) (hD : tb D q.i = false) (hb : sub q.b D = true) {F' : Fr} {u : V}
    (hF : F' = F ∨ ∃ d, q.o.dst = some d ∧ d < m ∧ F' = F.set d (some u)) : Fly P ops ps listed (bt D q.i) must n0 pd pend g F' M w base := by
  refine ⟨down_bt ok h.down hq hb, h.free, h.top, h.nodup, fun i hi => ?_, fun p hp hf hp' => ?_, h.park⟩
  · obtain ⟨p, hp, h1, h2, h3, h4, v, b, h5, h6, h7⟩ := h.each i hi
    subst h1
    obtain ⟨k1, k2⟩ := flt_keep ok h.down hp h2 h3 hq hD hF h6 h7
    exact ⟨p, hp, rfl, h2, by rw [bt_bit, h3]; rfl, h4, v, b, h5, k1, k2⟩
  · rw [bt_bit, Bool.or_eq_true, decide_eq_true_eq] at hp'
    rcases hp' with hp' | hp'
    · exact h.full p hp hf hp'
    · rw [(ok.same hq hp hp').2.2, still_flt ok hq hst] at hf; cases hf
theorem Fly.ahead_flt (h : Fly P ops ps listed D must n0 pd pend g F M w base) (ok : PsOk P ops.toList ps) (hI : Inv ops ps listed D must g F m a) {q : Pre} (hq : q ∈ ps) (hfl : q.fl = true) (hD : tb D q.i = false) (hb : sub q.b D = true) {v : V} {b : Blk} (hv : fltD P F (n0 + q.i) q.o.op = some (v, b)) {F' : Fr}
    (hF : (F' = F ∧ q.o.dst = none) ∨ ∃ d, q.o.dst = some d ∧ d < m ∧ F' = F.set d (some v)) : Fly P ops ps listed (bt D q.i) must n0 ((q.i, b) :: pd) (q.i :: pend) g F' M w base := by
  have hnl : ¬ Lst listed q.i := fun hl => by rw [hI.sub _ hl] at hD; cases hD
  have hnp : q.i ∉ pend := fun hm => by obtain ⟨_, _, _, _, h3, _⟩ := h.each _ hm; rw [hD] at h3; cases h3
  have hfb : ∀ i ∈ pend, findB i ((q.i, b) :: pd) = findB i pd := fun i hi => by
    unfold findB
    have : Nat.beq q.i i = false := by
      cases hbq : Nat.beq q.i i with
      | false => rfl
      | true => exact absurd ((Nat.eq_of_beq_eq_true hbq) ▸ hi) hnp
    rw [show (q.i, b).1 = q.i from rfl, this]
    cases pd <;> rfl
  have hF' : F' = F ∨ ∃ d, q.o.dst = some d ∧ d < m ∧ F' = F.set d (some v) := hF.imp (fun h => h.1) id
  obtain ⟨_, hea⟩ := ok.each
  have hqa : tb q.a q.i = false := by
    cases hqa : tb q.a q.i with
    | false => rfl
    | true =>
      have := (hea q hq).a _ h.down (fun e he => sub_bit hb (((hea q hq).b e).2 he)) _ hqa
      rw [hD] at this; cases this
  refine ⟨down_bt ok h.down hq hb, h.free, h.top, List.nodup_cons.2 ⟨hnp, h.nodup⟩, fun i hi => ?_, fun p hp hf hp' => ?_, ⟨fun i hi => ?_, fun i j x y hi hj => h.park.apart i j x y ?_ ?_⟩⟩
  · rcases List.mem_cons.1 hi with rfl | hi
    · have hmust : tb must q.i = false := by
        cases hm : tb must q.i with
        | false => rfl
        | true => exact absurd (hI.must _ hm) hnl
      refine ⟨q, hq, rfl, hfl, by rw [bt_bit]; simp, hmust, v, b, by unfold findB; rw [show Nat.beq (q.i, b).1 q.i = true from Nat.beq_refl _], ?_, fun d hd => ?_⟩
      · rcases hF with ⟨rfl, _⟩ | ⟨d, hd, _, rfl⟩
        · exact hv
        · obtain ⟨k1, k2, k3⟩ := ok.flt q hq hfl q hq d hd
          refine (fltD_congr fun t ht => ?_).trans hv
          rw [T.get_set_is k1]
          split
          · rename_i e; subst e
            rw [k2 (tmps_mem ht)] at hqa; cases hqa
          · rfl
      · rcases hF with ⟨rfl, hd'⟩ | ⟨e, hd', _, rfl⟩
        · rw [hd'] at hd; cases hd
        · rw [hd'] at hd; injection hd with hd; subst hd
          obtain ⟨k1, _, _⟩ := ok.flt q hq hfl q hq e hd'
          rw [T.get_set_is k1, if_pos rfl]
    · obtain ⟨p, hp, h1, h2, h3, h4, v', b', h5, h6, h7⟩ := h.each i hi
      subst h1
      obtain ⟨k1, k2⟩ := flt_keep ok h.down hp h2 h3 hq hD hF' h6 h7
      exact ⟨p, hp, rfl, h2, by rw [bt_bit, h3]; rfl, h4, v', b', (hfb _ hi).trans h5, k1, k2⟩
  · rw [bt_bit, Bool.or_eq_true, decide_eq_true_eq] at hp'
    rcases hp' with hp' | hp'
    · exact (h.full p hp hf hp').imp id (List.mem_cons_of_mem _)
    · exact .inr (by rw [hp']; exact List.mem_cons_self)
  · have hi' : i ∈ pend := by
      rcases List.mem_cons.1 hi.1 with e | hi'
      · exact absurd (e ▸ hi.2) hnl
      · exact hi'
    obtain ⟨x, c, k1, k2⟩ := h.park.is i ⟨hi', hi.2⟩
    exact ⟨x, c, (hfb i hi').trans k1, k2⟩
  · exact ⟨(List.mem_cons.1 hi.1).resolve_left fun e => hnl (e ▸ hi.2), hi.2⟩
  · exact ⟨(List.mem_cons.1 hj.1).resolve_left fun e => hnl (e ▸ hj.2), hj.2⟩
theorem lst_mono {i j : Nat} (h : Lst listed j) : Lst (listed.setIfInBounds i true) j := by
  by_cases hi : i < listed.size
  · exact (lst_set hi).2 (.inl h)
  · unfold Lst at *
    rw [Array.getElem?_setIfInBounds]
    split
    · rename_i e; subst e
      rw [Array.getElem?_eq_none (by omega)] at h; cases h
    · exact h
theorem Fly.still (h : Fly P ops ps listed D must n0 pd pend g F M w base) (ok : PsOk P ops.toList ps) (hs : listed.size = ops.size) {p : Pre} (hp : p ∈ ps) (hf : p.fl = false) : Fly P ops ps (listed.setIfInBounds p.i true) D must n0 pd pend g F M w base := by
  refine ⟨h.down, fun i hi hn => h.free i hi fun hl => hn (lst_mono hl), h.top, h.nodup, h.each, fun q hq hqf hqD => (h.full q hq hqf hqD).imp lst_mono id, h.park.less fun i hi => ⟨hi.1, ?_⟩⟩
  rcases (lst_set (by rw [hs]; exact ok.lt hp)).1 hi.2 with hl | e
  · exact hl
  · obtain ⟨q, hq, h1, h2, _⟩ := h.each i hi.1
    rw [(ok.same hp hq (by rw [h1, e])).2.2, hf] at h2; cases h2

/-- Between two operations that move. -/
theorem closed_wp (hG : GlobOk P w0) {g0 : Env} {M0 : Mm} {wr : World} (h0 : g0.top ≤ n0) (hbase : base = wr.heap.size) (ok : PsOk P ops.toList ps) {Q : Exit → Act → World → Prop}
    (hre : ∀ o ∈ openS ps D must, ∃ v, stillD P ops.toList o F M n = some v ∧ ∀ d, o.dst = some d → ∃ u, F.get d = some u ∧ sameV v u = true)
    (hact : ∀ listed a g w, Inv ops ps listed D must g F m a → Fly P ops ps listed D must n0 pd pend g F M w base → RM w0 g M n w → Mv g0 M0 wr g M w → ∀ p ∈ ps, tb D p.i = false → (∀ e ∈ bindOn p.o, Lst listed e) → ∀ fuel, (listed.setIfInBounds p.i true).toList.count false ≤ fuel → wpOp P ops Q p.i (wpAny P .any ops Q fuel (listed.setIfInBounds p.i true)) a w)
    (hfin : ∀ listed a g w, Inv ops ps listed D must g F m a → Fly P ops ps listed D must n0 pd pend g F M w base → RM w0 g M n w → Mv g0 M0 wr g M w → (∀ i, i < ops.size → Lst listed i) → Q .normal a w) :
    ∀ fuel listed a g w, Inv ops ps listed D must g F m a → Fly P ops ps listed D must n0 pd pend g F M w base → RM w0 g M n w → Mv g0 M0 wr g M w → listed.toList.count false ≤ fuel → wpAny P .any ops Q fuel listed a w := by
  intro fuel
  induction fuel with
  | zero =>
    intro listed a g w hI hY hM hm hc
    have hall := count_none hI.size (by omega)
    refine ⟨?_, hfin _ _ _ _ hI hY hM hm hall⟩
    rw [List.eq_nil_iff_forall_not_mem]
    intro i hi
    obtain ⟨o, ho, hn, _⟩ := (ready_iff hI.size).1 hi
    exact hn (hall i (Array.getElem?_eq_some_iff.1 ho).1)
  | succ fuel ih =>
    intro listed a g w hI hY hM hm hc
    refine ⟨fun hr => hfin _ _ _ _ hI hY hM hm (all_done ok hI.size hr), fun i hi => ?_⟩
    obtain ⟨o, ho, hn, hb⟩ := (ready_iff hI.size).1 hi
    have hio : i < ops.size := (Array.getElem?_eq_some_iff.1 ho).1
    have hcd := count_done (listed := listed) (by rw [hI.size]; exact hio) hn
    obtain ⟨p, hp, rfl⟩ := ok.full i (by simpa using hio)
    have hpo := ok.at' hp
    rw [Array.getElem?_toList, ho] at hpo
    injection hpo with hpo; subst hpo
    cases hD : tb D p.i with
    | false => exact hact listed a g w hI hY hM hm p hp hD hb fuel (by omega)
    | true =>
      cases hst : p.st with
      | true =>
        have hmust : tb must p.i = false := by
          cases hm : tb must p.i with
          | false => rfl
          | true => exact absurd (hI.must _ hm) hn
        obtain ⟨v, hv, hd⟩ := hre p.o (List.mem_map.2 ⟨p, List.mem_filter.2 ⟨hp, by rw [hD, hmust, hst]; rfl⟩, rfl⟩)
        obtain ⟨_, hea⟩ := ok.each
        unfold wpOp
        rw [ho]
        refine oper_wp (noCall_good hG) hM (hI.slots ok hp hb) hv fun v' M' n' g' w' cv hK hv' hM' hm' hs => ?_
        obtain ⟨rfl, rfl, rfl, rfl⟩ := hs (stays_still ((hea p hp).st.symm.trans hst))
        injection hK with hK; subst hK
        refine ih _ _ _ _ (hI.after ok hp hD hb fun d hd' => ?_) (hY.still ok hI.size hp (still_flt ok hp hst)) hM hm (by omega)
        obtain ⟨u, k1, k2⟩ := hd d hd'
        exact ⟨u, k1, sameV_rep k2 hv'⟩
      | false =>
        cases hfl : p.fl with
        | false => exact absurd (hI.acts p hp hD hst hfl) hn
        | true =>
          have hpm : p.i ∈ pend := (hY.full p hp hfl hD).resolve_left hn
          obtain ⟨p', hp', e1, e2, e3, e4, v, b, e5, e6, e7⟩ := hY.each _ hpm
          rw [(ok.same hp hp' e1.symm).1] at e6 e7
          obtain ⟨cells, ty, cv, hrun, hrep⟩ := flt_run (a := a) hM ((hI.slots ok hp hb).ev fun t ht => tmps_mem ht) e6
          have hgn := hY.free p.i hio hn
          have hsub := putG_sub (x := ⟨w.heap.size, 0, cells.size⟩) hgn
          obtain ⟨k1, k2⟩ := hrep _ hsub putG_new
          obtain ⟨m1, m2, m3⟩ := park_new (ty := ty) hM hm hY.park (by rw [hbase]; exact hm.size) hgn (by have := hY.top; omega) h0 e5 k2
          obtain ⟨_, hea⟩ := ok.each
          have hg : p.o.guard = none := by
            have := (hea p hp).fl
            rw [hfl] at this
            have : isFlt p.o = true := by
              have := this.symm
              rw [Bool.and_eq_true] at this
              exact this.2
            unfold isFlt at this
            simp only [Bool.and_eq_true, Option.isNone_iff_eq_none] at this
            exact this.1.1
          unfold wpOp
          rw [ho]
          have hwant : Region.wanted p.o (yielded ops a.tmps) = true := by unfold Region.wanted; rw [hg]
          simp only [hwant, if_true]
          refine .inl ?_
          unfold Oper.wp
          rw [hrun]
          show wpAny P .any ops Q fuel _ _ _
          refine ih _ _ _ _ ((hI.mono hsub).after ok hp hD hb fun d hd => ⟨v, e7 d hd, k1⟩) ⟨hY.down, fun j hj hnj => ?_, hY.top, hY.nodup, hY.each, fun q hq hqf hqD => (hY.full q hq hqf hqD).imp lst_mono id, m3.less fun j hj => ?_⟩ m1 m2 (by omega)
          · have hne : j ≠ p.i := fun e => hnj ((lst_set (by rw [hI.size]; exact hio)).2 (.inr e))
            rw [putG_other (by omega)]
            exact hY.free j hj fun hl => hnj (lst_mono hl)
          · rcases (lst_set (by rw [hI.size]; exact hio)).1 hj.2 with hl | e
            · exact .inl ⟨hj.1, hl⟩
            · exact .inr e
end

theorem planB_wp {call : CallT A} (hcall : CallGood P w0 call) (ok : PsOk P ops.toList ps) {g0 : Env} {M0 : Mm} {wr : World} {n0 base : Nat} (h0 : g0.top ≤ n0) (hbase : base = wr.heap.size) {K : Fr → Mm → Nat → Option A} {Q : Exit → Act → World → Prop}
    (hQ : ∀ F' M' n' g' a' w', K F' M' n' = some r → RF g' F' m a' → RM w0 g' M' n' w' → Mv g0 M0 wr g' M' w' → Q .normal a' w') :
    ∀ {k : Nat} {D must : Nat} {pend : List Nat} {pd : List (Nat × Blk)} {pl : Plan} {F : Fr} {M : Mm} {n : Nat} {g : Env} {a : Act} {w : World} {listed : Array Bool} {fuel : Nat},
    mkPlan ps k D must pend = some pl → planB P call m n0 ops.toList K pl pd F M n = some r → Inv ops ps listed D must g F m a → Fly P ops ps listed D must n0 pd pend g F M w base → RM w0 g M n w → Mv g0 M0 wr g M w → listed.toList.count false ≤ fuel → wpAny P .any ops Q fuel listed a w
  | 0, _, _, _, _, _, _, _, _, _, _, _, _, _, h, _, _, _, _, _, _ => by cases h
  | k + 1, D, must, pend, pd, pl, F, M, n, g, a, w, listed, fuel, h, hp, hI, hY, hM, hm, hc => by
    obtain ⟨_, hea⟩ := ok.each
    have put : ∀ {q : Pre} {v : V} {K' : Fr → Option A}, putK m F q.o.dst v K' = some r → ∃ F', K' F' = some r ∧ ((F' = F ∧ q.o.dst = none) ∨ ∃ d, q.o.dst = some d ∧ d < m ∧ F' = F.set d (some v)) := fun {q v K'} hp => by
      rcases putK_some hp with ⟨hd, hp⟩ | ⟨d, hd, hlt, hp⟩
      · exact ⟨F, hp, .inl ⟨rfl, hd⟩⟩
      · exact ⟨_, hp, .inr ⟨d, hd, hlt, rfl⟩⟩
    rw [mkPlan] at h
    split at h
    · rename_i p hf
      rw [forceN_eq] at h
      split at h
      · rename_i q hq
        injection h with h; subst h
        have hmem := List.mem_of_find?_eq_some hf
        have hpr := List.find?_some hf
        simp only [rdy, Bool.and_eq_true, Bool.not_eq_true'] at hpr
        rw [planB] at hp
        replace hp := ob_some hp; obtain ⟨v, hv, hp⟩ := hp
        obtain ⟨F', hp, hF'⟩ := put hp
        have hF'' : F' = F ∨ ∃ d, p.o.dst = some d ∧ d < m ∧ F' = F.set d (some v) := hF'.imp (fun h => h.1) id
        exact planB_wp hcall ok h0 hbase hQ hq hp (hI.ahead ok hmem (.inl hpr.2) hpr.1.1 hF'') (hY.ahead ok hmem hpr.2 hpr.1.1 hpr.1.2 hF'') hM hm hc
      · cases h
    · split at h
      · rename_i p hf
        rw [forceN_eq] at h
        split at h
        · rename_i q hq
          injection h with h; subst h
          have hmem := List.mem_of_find?_eq_some hf
          have hpr := List.find?_some hf
          simp only [rdy, Bool.and_eq_true, Bool.not_eq_true'] at hpr
          rw [planB] at hp
          replace hp := ob_some hp; obtain ⟨⟨v, b⟩, hv, hp⟩ := hp
          obtain ⟨F', hp, hF'⟩ := put hp
          have hF'' : F' = F ∨ ∃ d, p.o.dst = some d ∧ d < m ∧ F' = F.set d (some v) := hF'.imp (fun h => h.1) id
          exact planB_wp hcall ok h0 hbase hQ hq hp (hI.ahead ok hmem (.inr hpr.2) hpr.1.1 hF'') (hY.ahead_flt ok hI hmem hpr.2 hpr.1.1 hpr.1.2 hv hF') hM hm hc
        · cases h
      · rename_i hnof
        split at h
        · rename_i hnil
          injection h with h; subst h
          rw [planB] at hp
          obtain ⟨hK, hre⟩ := recheck_some hp
          refine closed_wp hcall.1 h0 hbase ok hre (fun listed a g w hI hY hM hm p hp hD hb fuel hc => ?_) (fun listed a g w hI hY hM hm hall => ?_) fuel listed a g w hI hY hM hm hc
          · have : p ∈ ps.filter (rdy D) := List.mem_filter.2 ⟨hp, by
              unfold rdy
              rw [hD, Bool.not_false, Bool.true_and]
              exact sub_of fun i hi => hI.sub i (hb i (((hea p hp).b i).1 hi))⟩
            rw [hnil] at this; cases this
          · have hpl : ∀ i ∈ pend, i ∈ pend ∧ Lst listed i := fun i hi => by
              obtain ⟨q, hq, e, _⟩ := hY.each i hi
              exact ⟨hi, hall i (by rw [← e]; exact ok.lt hq)⟩
            obtain ⟨M', hK', hM', hm', _⟩ := reveal_some hK hY.nodup hpl hY.park hM hm hbase
            exact hQ F M' n g a w hK' ⟨hI.sz, fun t v hv => hI.slot t v hv fun q hq _ _ => hall _ (ok.lt hq), hI.defers, hI.lt⟩ hM' hm'
        · rename_i p hone
          rw [forceN_eq, forceN_eq] at h
          split at h
          · rename_i q hq
            injection h with h; subst h
            rw [planB] at hp
            obtain ⟨hK, hre⟩ := recheck_some hp
            have hpm : p ∈ ps ∧ rdy D p = true := by
              have : p ∈ ps.filter (rdy D) := by rw [hone]; exact List.mem_cons_self
              exact List.mem_filter.1 this
            have hpD : tb D p.i = false := by have := hpm.2; simp only [rdy, Bool.and_eq_true, Bool.not_eq_true'] at this; exact this.1
            have hpb : sub p.b D = true := by have := hpm.2; simp only [rdy, Bool.and_eq_true, Bool.not_eq_true'] at this; exact this.2
            have hpf : p.fl = false := by
              cases hpf : p.fl with
              | false => rfl
              | true =>
                have := List.find?_eq_none.1 hnof p hpm.1
                rw [hpm.2, hpf] at this
                exact absurd rfl this
            have hpo := ok.at' hpm.1
            rw [Array.getElem?_toList] at hpo
            refine closed_wp hcall.1 h0 hbase ok hre (fun listed a g w hI hY hM hm p' hp' hD hb fuel hc => ?_) (fun listed a g w hI hY hM hm hall => ?_) fuel listed a g w hI hY hM hm hc
            · have hp'm : p' ∈ ps.filter (rdy D) := List.mem_filter.2 ⟨hp', by
                unfold rdy
                rw [hD, Bool.not_false, Bool.true_and]
                exact sub_of fun i hi => hI.sub i (hb i (((hea p' hp').b i).1 hi))⟩
              rw [hone, List.mem_singleton] at hp'm
              subst hp'm
              have hmust' : ∀ i, tb (Nat.lor (bt must p'.i) p'.a) i = true → Lst listed i ∨ i = p'.i := fun i hi => by
                rw [lor_bit, bt_bit, Bool.or_eq_true, Bool.or_eq_true, decide_eq_true_eq] at hi
                rcases hi with (hi | hi) | hi
                · exact .inl (hI.must i hi)
                · exact .inr hi.symm
                · exact .inl ((hea p' hp').a _ hI.down hb _ hi)
              have hnotp : ∀ i ∈ pend, i ≠ p'.i := fun i hi e => by
                obtain ⟨_, _, _, _, h3, _⟩ := hY.each i hi
                rw [e, hD] at h3; cases h3
              obtain ⟨M1, hK1, hM1, hm1, hp1⟩ := reveal_some hK (hY.nodup.filter _) (fun i hi => by
                rw [List.mem_filter] at hi
                exact ⟨hi.1, (hmust' i hi.2).resolve_right (hnotp i hi.1)⟩) hY.park hM hm hbase
              unfold wpOp
              rw [hpo]
              refine oper_wp hcall hM1 (hI.slots ok hp' hb) hK1 fun v M' n' g' w' cv hK hv hM' hm' _ => ?_
              obtain ⟨F', hK, hF'⟩ := put hK
              have hF'' : F' = F ∨ ∃ d, p'.o.dst = some d ∧ d < m ∧ F' = F.set d (some v) := hF'.imp (fun h => h.1) id
              have hI' : Inv ops ps (listed.setIfInBounds p'.i true) (bt D p'.i) (Nat.lor (bt must p'.i) p'.a) g' F' m (a.put p'.o.dst cv) := by
                have hpk : putK m F p'.o.dst v some = some F' := by
                  rcases hF' with ⟨rfl, hd⟩ | ⟨d, hd, hlt, rfl⟩
                  · rw [hd]; rfl
                  · rw [hd]
                    show bb (Nat.ble (Nat.succ d) m) (T.setK 64 F d (some v) some) = _
                    rw [show Nat.ble (Nat.succ d) m = true from Nat.ble_eq_true_of_le hlt]
                    show T.setK 64 F d (some v) some = _
                    rw [T.setK_set]
                obtain ⟨F2, e, hI2⟩ := (hI.mono hm'.ext).both ok hp' hb hv hpk
                injection e with e
                rw [← e]; exact hI2
              have htop : ∀ i ∈ pend, n0 + i < g.top := fun i hi => by
                obtain ⟨q, hq, e, _⟩ := hY.each i hi
                have := ok.lt hq
                have := hY.top
                omega
              refine planB_wp hcall ok h0 hbase hQ hq hK hI' ⟨down_bt ok hY.down hp' hpb, fun i hi hn => ?_, Nat.le_trans hY.top hm'.up, hY.nodup.filter _, fun i hi => ?_, fun q' hq' hqf hqD => ?_, ?_⟩ hM' (hm1.trans hm') hc
              · rw [hm'.low _ (by have := hY.top; omega)]
                exact hY.free i hi fun hl => hn (lst_mono hl)
              · rw [List.mem_filter] at hi
                obtain ⟨q', hq', h1, h2, h3, h4, v', b', h5, h6, h7⟩ := hY.each i hi.1
                subst h1
                obtain ⟨k1, k2⟩ := flt_keep ok hY.down hq' h2 h3 hp' hD hF'' h6 h7
                exact ⟨q', hq', rfl, h2, by rw [bt_bit, h3]; rfl, by simpa using hi.2, v', b', h5, k1, k2⟩
              · rw [bt_bit, Bool.or_eq_true, decide_eq_true_eq] at hqD
                rcases hqD with hqD | hqD
                · rcases hY.full q' hq' hqf hqD with hl | hl
                  · exact .inl (lst_mono hl)
                  · cases hmm : tb (Nat.lor (bt must p'.i) p'.a) q'.i with
                    | true => exact .inl (hI'.must _ hmm)
                    | false => exact .inr (List.mem_filter.2 ⟨hl, by rw [hmm]; rfl⟩)
                · rw [(ok.same hp' hq' hqD).2.2, hpf] at hqf; cases hqf
              · refine (hp1.mv hM1 hm' fun i hi => htop i hi.1.1).less fun i hi => ?_
                have hi1 := List.mem_filter.1 hi.1
                have hl : Lst listed i := by
                  rcases (lst_set (by rw [hI.size]; exact ok.lt hp')).1 hi.2 with hl | e
                  · exact hl
                  · exact absurd e (hnotp i hi1.1)
                refine ⟨⟨hi1.1, hl⟩, fun hm2 => ?_⟩
                have := (List.mem_filter.1 hm2).2
                have h2 := hi1.2
                rw [this] at h2; cases h2
            · have := hI.sub _ (hall p.i (Array.getElem?_eq_some_iff.1 hpo).1)
              rw [hpD] at this; cases this
          · cases h
        · cases h

/-- A region that draws. -/
theorem draw_wp {call : CallT A} (hcall : CallGood P w0 call) {id : Nat} {K : Fr → Mm → Nat → Option A} {Q : Exit → Act → World → Prop} (h : drawB P call m ops.toList F M n K = some r) (hM : RM w0 g M n w) (hF : RF g F m a)
    (hQ : ∀ F' M' n' g' a' w', K F' M' n' = some r → RF g' F' m a' → RM w0 g' M' n' w' → Mv g M w g' M' w' → Q .normal a' w') : (Code.region id ops true).wp P Q a w := by
  unfold drawB at h
  replace h := ob_some h; obtain ⟨pl, hpl, h⟩ := h
  obtain ⟨ps, ok, hmix, hpl⟩ := planOf_some hpl
  refine wp_region_any hmix ?_
  have hnl : ∀ i, ¬ Lst (Array.replicate ops.size false) i := fun i hi => by
    unfold Lst at hi
    rw [Array.getElem?_replicate] at hi
    split at hi
    · injection hi with hi; cases hi
    · cases hi
  let g1 : Env := ⟨g.f, n + ops.toList.length⟩
  have hs1 : Sub g g1 := fun _ _ h => h
  let w1 : World := { w with drawn := w.drawn + 1 }
  have hM1 : RM w0 g M n w1 := hM.world rfl rfl rfl rfl
  have hgt := hM.top
  have hM' : RM w0 g1 M (n + ops.toList.length) w1 := ⟨fun id b hb => by obtain ⟨x, hx, hr⟩ := hM1.rep id b hb; exact ⟨x, hx, hr.ext hs1 rfl⟩, hM1.inj, fun id x hx => by have := hM1.lt id x hx; exact ⟨by omega, this.2⟩, hM1.size, hM1.old, hM1.tape, hM1.os, hM1.output, rfl⟩
  have hm' : Mv g M w g1 M w1 := ⟨hs1, Nat.le_refl _, fun _ _ _ => rfl, fun id x c h1 h2 _ => ⟨id, x, c, h1, h2, rfl⟩, fun _ _ => rfl, by show g.top ≤ n + ops.toList.length; omega⟩
  have hI : Inv ops ps (Array.replicate ops.size false) 0 0 g1 F m a :=
    ⟨by simp, fun i hi => absurd hi (hnl i), fun p _ h => absurd h (by rw [tb_zero]; simp), fun i o _ hi => absurd hi (hnl i), fun i h => absurd h (by rw [tb_zero]; simp), hF.sz, hF.defers, hF.lt, fun t v hv _ => (hF.tmp t v hv).mono hs1⟩
  have hY : Fly P ops ps (Array.replicate ops.size false) 0 0 n [] [] g1 F M w1 w.heap.size :=
    ⟨fun i o _ h => absurd (show tb 0 i = true from h) (by rw [tb_zero]; simp), fun i hi _ => by
      cases hg : g1 (n + i) with
      | none => rfl
      | some x => have := (hM1.lt (n + i) x hg).1; omega, by show n + ops.size ≤ n + ops.toList.length; simp, List.nodup_nil, (fun i hi => by cases hi), fun p _ _ h => absurd h (by rw [tb_zero]; simp), ⟨(fun i hi => by cases hi.1), (fun i j x y hi => by cases hi.1)⟩⟩
  exact planB_wp hcall ok (n0 := n) (by omega) rfl hQ hpl h hI hY hM' hm' (by simp)
end Go.Eb
