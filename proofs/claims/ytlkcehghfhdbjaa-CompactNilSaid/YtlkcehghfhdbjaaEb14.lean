/-
The closed evaluator: regions that draw their order, run.
-/
import Derived.Test.YtlkcehghfhdbjaaEb13
set_option linter.unusedVariables false
set_option linter.unusedSimpArgs false
namespace Go.Eb
variable {A : Type} {P : Program} {w0 : World} {g : Env} {F : Fr} {M : Mm} {n m : Nat} {a : Act} {w : World} {r : A} {ops : Array Oper} {ps : List Pre} {D must : Nat} {listed : Array Bool}

theorem ready_iff (hs : listed.size = ops.size) {i : Nat} : i ∈ Region.ready .any ops listed ↔ ∃ o, ops[i]? = some o ∧ ¬ Lst listed i ∧ ∀ e ∈ bindOn o, Lst listed e := by
  unfold Region.ready bindOn Lst
  rw [List.mem_filter, List.mem_range]
  constructor
  · rintro ⟨hi, h⟩
    have ho : ops[i]? = some ops[i] := Array.getElem?_eq_getElem hi
    have hl : listed[i]? = some listed[i] := Array.getElem?_eq_getElem (by omega)
    rw [ho] at h
    simp only [Bool.and_eq_true, Option.map_some, Option.getD_some, Array.all_eq_true_iff_forall_mem, Bool.or_eq_true, Array.getD_eq_getD_getElem?] at h
    refine ⟨_, ho, ?_, fun e he => ?_⟩
    · have := h.1
      rw [hl] at this ⊢
      simpa using this
    · obtain ⟨x, hx, rfl⟩ := List.mem_map.1 he
      rw [List.mem_filter] at hx
      have := h.2 x (by simpa using hx.1)
      rw [hx.2] at this
      simp only [Bool.not_true, Bool.false_eq_true, false_or] at this
      cases hl : listed[x.on]? with
      | none => rw [hl] at this; cases this
      | some b => rw [hl] at this; have : b = true := this; rw [this]
  · rintro ⟨o, ho, hl, hb⟩
    have hi : i < ops.size := (Array.getElem?_eq_some_iff.1 ho).1
    have hl' : listed[i]? = some listed[i] := Array.getElem?_eq_getElem (by omega)
    refine ⟨hi, ?_⟩
    rw [ho]
    simp only [Bool.and_eq_true, Option.map_some, Option.getD_some, Array.all_eq_true_iff_forall_mem, Bool.or_eq_true, Array.getD_eq_getD_getElem?]
    refine ⟨?_, fun x hx => ?_⟩
    · rw [hl'] at hl ⊢
      simpa using hl
    · cases hbx : Region.binds .any x with
      | false => exact .inl rfl
      | true => exact .inr (by rw [hb x.on (List.mem_map.2 ⟨x, List.mem_filter.2 ⟨by simpa using hx, hbx⟩, rfl⟩)]; rfl)
theorem all_done (ok : PsOk P ops.toList ps) (hs : listed.size = ops.size) (hr : Region.ready .any ops listed = []) : ∀ i, i < ops.size → Lst listed i := by
  intro i
  induction i using Nat.strongRecOn with
  | ind i ih =>
    intro hi
    apply Classical.byContradiction
    intro hn
    obtain ⟨p, hp, rfl⟩ := ok.full i (by simpa using hi)
    have ho := (ok.each p hp).at'
    rw [Array.getElem?_toList] at ho
    have : p.i ∈ Region.ready .any ops listed := (ready_iff hs).2 ⟨p.o, ho, hn, fun e he => ih e ((ok.each p hp).lt e he) (by have := (ok.each p hp).lt e he; omega)⟩
    rw [hr] at this
    cases this
theorem count_done {i : Nat} (hi : i < listed.size) (hn : ¬ Lst listed i) : (listed.setIfInBounds i true).toList.count false + 1 = listed.toList.count false := by
  have hl : listed[i]? = some listed[i] := Array.getElem?_eq_getElem hi
  have hf : listed[i] = false := by
    unfold Lst at hn; rw [hl] at hn; simpa using hn
  have hi' : i < listed.toList.length := by simpa using hi
  rw [Array.toList_setIfInBounds, List.count_set hi']
  have h1 : listed.toList[i] = false := by simpa using hf
  have : false ∈ listed.toList := h1 ▸ List.getElem_mem hi'
  have hpos := List.count_pos_iff.2 this
  rw [h1]
  simp only [beq_self_eq_true, if_true, show (true == false) = false from rfl, Bool.false_eq_true, if_false, Nat.add_zero]
  omega
theorem count_none (hs : listed.size = ops.size) (h : listed.toList.count false = 0) : ∀ i, i < ops.size → Lst listed i := fun i hi => by
  have hl : listed[i]? = some listed[i] := Array.getElem?_eq_getElem (by omega)
  unfold Lst
  rw [hl]
  cases hb : listed[i] with
  | true => rfl
  | false =>
    have : false ∈ listed.toList := by rw [← hb]; simp
    exact absurd h (by have := List.count_pos_iff.2 this; omega)

theorem noCall_good : CallGood P w0 (noCall : CallT V) := fun _ _ _ _ _ _ _ _ _ h => by cases h
theorem recheck_some {all : List Oper} {K : Option A} : ∀ {re : List Oper}, recheck P all F M n re K = some r → K = some r ∧ ∀ o ∈ re, ∃ v, stillD P all o F M n = some v ∧ ∀ d, o.dst = some d → ∃ u, F.get d = some u ∧ sameV v u = true
  | [], h => ⟨h, by simp⟩
  | o :: re, h => by
    have h : ob (stillD P all o F M n) (fun v => match o.dst with
      | some d => ob (F.get d) fun u => bb (sameV v u) (recheck P all F M n re K)
      | none => recheck P all F M n re K) = some r := h
    replace h := ob_some h; obtain ⟨v, hv, h⟩ := h
    have key : recheck P all F M n re K = some r ∧ ∀ d, o.dst = some d → ∃ u, F.get d = some u ∧ sameV v u = true := by
      split at h
      · rename_i d hd
        replace h := ob_some h; obtain ⟨u, hu, h⟩ := h
        replace h := bb_some h; obtain ⟨hs, h⟩ := h
        exact ⟨h, fun e he => by rw [hd] at he; injection he with he; subst he; exact ⟨u, hu, hs⟩⟩
      · rename_i hd
        exact ⟨h, fun e he => by rw [hd] at he; cases he⟩
    obtain ⟨h1, h2⟩ := recheck_some key.1
    exact ⟨h1, fun x hx => by
      rcases List.mem_cons.1 hx with rfl | hx
      · exact ⟨v, hv, key.2⟩
      · exact h2 x hx⟩

/-- Between two operations that move. -/
theorem closed_wp (ok : PsOk P ops.toList ps) {Q : Exit → Act → World → Prop} (hM : RM w0 g M n w)
    (hre : ∀ o ∈ openS ps D must, ∃ v, stillD P ops.toList o F M n = some v ∧ ∀ d, o.dst = some d → ∃ u, F.get d = some u ∧ sameV v u = true)
    (hact : ∀ listed a, Inv ops ps listed D must g F m a → ∀ p ∈ ps, tb D p.i = false → (∀ e ∈ bindOn p.o, Lst listed e) → ∀ fuel, (listed.setIfInBounds p.i true).toList.count false ≤ fuel → wpOp P ops Q p.i (wpAny P .any ops Q fuel (listed.setIfInBounds p.i true)) a w)
    (hfin : ∀ listed a, Inv ops ps listed D must g F m a → (∀ i, i < ops.size → Lst listed i) → Q .normal a w) :
    ∀ fuel listed a, Inv ops ps listed D must g F m a → listed.toList.count false ≤ fuel → wpAny P .any ops Q fuel listed a w := by
  intro fuel
  induction fuel with
  | zero =>
    intro listed a hI hc
    have hall := count_none hI.size (by omega)
    refine ⟨?_, hfin _ _ hI hall⟩
    rw [List.eq_nil_iff_forall_not_mem]
    intro i hi
    obtain ⟨o, ho, hn, _⟩ := (ready_iff hI.size).1 hi
    exact hn (hall i (Array.getElem?_eq_some_iff.1 ho).1)
  | succ fuel ih =>
    intro listed a hI hc
    refine ⟨fun hr => hfin _ _ hI (all_done ok hI.size hr), fun i hi => ?_⟩
    obtain ⟨o, ho, hn, hb⟩ := (ready_iff hI.size).1 hi
    have hio : i < ops.size := (Array.getElem?_eq_some_iff.1 ho).1
    have hcd := count_done (listed := listed) (by rw [hI.size]; exact hio) hn
    obtain ⟨p, hp, rfl⟩ := ok.full i (by simpa using hio)
    have hpo := (ok.each p hp).at'
    rw [Array.getElem?_toList, ho] at hpo
    injection hpo with hpo; subst hpo
    cases hD : tb D p.i with
    | false => exact hact listed a hI p hp hD hb fuel (by omega)
    | true =>
      have hst : p.st = true := by
        cases hst : p.st with
        | true => rfl
        | false => exact absurd (hI.acts p hp hD hst) hn
      have hmust : tb must p.i = false := by
        cases hm : tb must p.i with
        | false => rfl
        | true => exact absurd (hI.must _ hm) hn
      obtain ⟨v, hv, hd⟩ := hre p.o (List.mem_map.2 ⟨p, List.mem_filter.2 ⟨hp, by rw [hD, hmust, hst]; rfl⟩, rfl⟩)
      unfold wpOp
      rw [ho]
      refine oper_wp (noCall_good (w0 := w0)) hM (hI.slots ok hp hb) hv fun v' M' n' g' w' cv hK hv' hM' hm hs => ?_
      obtain ⟨rfl, rfl, rfl, rfl⟩ := hs (stays_still ((ok.each p hp).st.symm.trans hst))
      injection hK with hK; subst hK
      exact ih _ _ (hI.after ok hp hD hb hv' hd) (by omega)

theorem planB_wp {call : CallT A} (hcall : CallGood P w0 call) (ok : PsOk P ops.toList ps) {K : Fr → Mm → Nat → Option A} {Q : Exit → Act → World → Prop} : ∀ {k : Nat} {D must : Nat} {pl : Plan} {F : Fr} {M : Mm} {n : Nat} {g : Env} {a : Act} {w : World} {listed : Array Bool} {fuel : Nat},
    mkPlan ps k D must = some pl → planB P call m ops.toList K pl F M n = some r → Inv ops ps listed D must g F m a → RM w0 g M n w → listed.toList.count false ≤ fuel →
    (∀ F' M' n' g' a' w', K F' M' n' = some r → RF g' F' m a' → RM w0 g' M' n' w' → Mv g M w g' M' w' → Q .normal a' w') → wpAny P .any ops Q fuel listed a w
  | 0, _, _, _, _, _, _, _, _, _, _, _, h, _, _, _, _, _ => by cases h
  | k + 1, D, must, pl, F, M, n, g, a, w, listed, fuel, h, hp, hI, hM, hc, hQ => by
    rw [mkPlan] at h
    split at h
    · rename_i p hf
      rw [forceN_eq] at h
      split at h
      · rename_i q hq
        injection h with h; subst h
        have hmem := List.mem_of_find?_eq_some hf
        have hpr := List.find?_some hf
        simp only [rdy, Bool.and_eq_true, Bool.not_eq_true'] at hpr
        rw [planB] at hp
        replace hp := ob_some hp; obtain ⟨v, hv, hp⟩ := hp
        have : ∃ F', planB P call m ops.toList K q F' M n = some r ∧ (F' = F ∨ ∃ d, p.o.dst = some d ∧ d < m ∧ F' = F.set d (some v)) := by
          rcases putK_some hp with ⟨_, hp⟩ | ⟨d, hd, hlt, hp⟩
          · exact ⟨F, hp, .inl rfl⟩
          · exact ⟨_, hp, .inr ⟨d, hd, hlt, rfl⟩⟩
        obtain ⟨F', hp, hF'⟩ := this
        exact planB_wp hcall ok hq hp (hI.ahead ok hmem hpr.2 hpr.1.1 hF') hM hc hQ
      · cases h
    · split at h
      · rename_i hnil
        injection h with h; subst h
        rw [planB] at hp
        obtain ⟨hK, hre⟩ := recheck_some hp
        refine closed_wp ok hM hre (fun listed a hI p hp hD hb fuel hc => ?_) (fun listed a hI hall => ?_) fuel listed a hI hc
        · have : p ∈ ps.filter (rdy D) := List.mem_filter.2 ⟨hp, by
            unfold rdy
            rw [hD, Bool.not_false, Bool.true_and]
            exact sub_of fun i hi => hI.sub i (hb i (((ok.each p hp).b i).1 hi))⟩
          rw [hnil] at this; cases this
        · refine hQ F M n g a w hK ⟨hI.sz, fun t v hv => hI.slot t v hv fun q hq _ _ => hall _ ?_, hI.defers, hI.lt⟩ hM (.refl g M w)
          have := (ok.each q hq).at'
          rw [Array.getElem?_toList] at this
          exact (Array.getElem?_eq_some_iff.1 this).1
      · rename_i p hone
        rw [forceN_eq, forceN_eq] at h
        split at h
        · rename_i q hq
          injection h with h; subst h
          rw [planB] at hp
          obtain ⟨hK, hre⟩ := recheck_some hp
          have hpm : p ∈ ps ∧ rdy D p = true := by
            have : p ∈ ps.filter (rdy D) := by rw [hone]; exact List.mem_cons_self
            exact List.mem_filter.1 this
          have hpD : tb D p.i = false := by have := hpm.2; simp only [rdy, Bool.and_eq_true, Bool.not_eq_true'] at this; exact this.1
          have hpo := (ok.each p hpm.1).at'
          rw [Array.getElem?_toList] at hpo
          refine closed_wp ok hM hre (fun listed a hI p' hp' hD hb fuel hc => ?_) (fun listed a hI hall => ?_) fuel listed a hI hc
          · have hp'm : p' ∈ ps.filter (rdy D) := List.mem_filter.2 ⟨hp', by
              unfold rdy
              rw [hD, Bool.not_false, Bool.true_and]
              exact sub_of fun i hi => hI.sub i (hb i (((ok.each p' hp').b i).1 hi))⟩
            rw [hone, List.mem_singleton] at hp'm
            subst hp'm
            unfold wpOp
            rw [hpo]
            refine oper_wp hcall hM (hI.slots ok hp' hb) hK fun v M' n' g' w' cv hK hv hM' hm _ => ?_
            obtain ⟨F', hK, hI'⟩ := (hI.mono hm.ext).both ok hp' hb hv hK
            exact planB_wp hcall ok hq hK hI' hM' hc fun F2 M2 n2 g2 a2 w2 h1 h2 h3 h4 => hQ F2 M2 n2 g2 a2 w2 h1 h2 h3 (hm.trans h4)
          · have := hI.sub _ (hall p.i (Array.getElem?_eq_some_iff.1 hpo).1)
            rw [hpD] at this; cases this
        · cases h
      · cases h

/-- A region that draws. -/
theorem draw_wp {call : CallT A} (hcall : CallGood P w0 call) {id : Nat} {K : Fr → Mm → Nat → Option A} {Q : Exit → Act → World → Prop} (h : drawB P call m ops.toList F M n K = some r) (hM : RM w0 g M n w) (hF : RF g F m a)
    (hQ : ∀ F' M' n' g' a' w', K F' M' n' = some r → RF g' F' m a' → RM w0 g' M' n' w' → Mv g M w g' M' w' → Q .normal a' w') : (Code.region id ops true).wp P Q a w := by
  unfold drawB at h
  replace h := ob_some h; obtain ⟨pl, hpl, h⟩ := h
  obtain ⟨ps, ok, hmix, hpl⟩ := planOf_some hpl
  refine wp_region_any hmix ?_
  have hnl : ∀ i, ¬ Lst (Array.replicate ops.size false) i := fun i hi => by
    unfold Lst at hi
    rw [Array.getElem?_replicate] at hi
    split at hi
    · injection hi with hi; cases hi
    · cases hi
  have hI : Inv ops ps (Array.replicate ops.size false) 0 0 g F m a :=
    ⟨by simp, fun i hi => absurd hi (hnl i), fun p _ h => absurd h (by rw [tb_zero]; simp), fun i o _ hi => absurd hi (hnl i), fun i h => absurd h (by rw [tb_zero]; simp), hF.sz, hF.defers, hF.lt, fun t v hv _ => hF.tmp t v hv⟩
  have hM' : RM w0 g M n { w with drawn := w.drawn + 1 } := hM.world rfl rfl rfl rfl
  exact planB_wp hcall ok hpl h hI hM' (by simp) fun F2 M2 n2 g2 a2 w2 h1 h2 h3 h4 => hQ F2 M2 n2 g2 a2 w2 h1 h2 h3 ((Mv.world g M (w := w) (w' := { w with drawn := w.drawn + 1 }) rfl).trans h4)
end Go.Eb
