/-
The closed evaluator: regions that draw their order.
-/
import Derived.Test.YthglbpibfhfgnaaGreatDoorEb12
set_option linter.unusedVariables false
set_option linter.unusedSimpArgs false
namespace Go.Eb
variable {A : Type} {P : Program} {w0 : World} {g : Env} {F : Fr} {M : Mm} {n m : Nat} {a : Act} {w : World} {r : A} {ops : Array Oper} {ps : List Pre} {D must : Nat} {listed : Array Bool}

theorem same1_rep {a b : V} {cv : Value} (h : same1 a b = true) (ha : Rep g a cv) : Rep g b cv := by
  unfold same1 at h
  split at h
  · rename_i x y
    have : x = y := by simpa using h
    subst this; exact ha
  · simp only [Bool.and_eq_true, decide_eq_true_eq, eqI_eq] at h
    obtain ⟨rfl, rfl⟩ := h; exact ha
  · exact ha
  · simp only [Bool.and_eq_true, Nat.beq_eq] at h
    obtain ⟨rfl, rfl⟩ := h; exact ha
  · simp only [Nat.beq_eq] at h
    subst h; exact ha
  · exact ha
  · simp only [Bool.and_eq_true, Nat.beq_eq] at h
    obtain ⟨⟨⟨rfl, rfl⟩, rfl⟩, rfl⟩ := h; exact ha
  · exact ha
  · simp only [Nat.beq_eq] at h
    subst h; exact ha
  · exact ha
  · simp only [Nat.beq_eq] at h
    subst h; exact ha
  · exact ha
  · simp only [Bool.and_eq_true, Nat.beq_eq] at h
    obtain ⟨⟨⟨⟨rfl, rfl⟩, rfl⟩, rfl⟩, rfl⟩ := h; exact ha
  · exact ha
  · exact ha
  · simp only [Bool.and_eq_true, decide_eq_true_eq, eqI_eq] at h
    obtain ⟨⟨rfl, rfl⟩, rfl⟩ := h; exact ha
  · simp only [Bool.and_eq_true, Nat.beq_eq] at h
    obtain ⟨rfl, rfl⟩ := h; exact ha
  · cases h
theorem sameS_rep {a b : V} {cv : Value} (h : sameS a b = true) (ha : Rep g a cv) : Rep g b cv := by
  unfold sameS at h
  split at h
  · rw [eqL_eq, decide_eq_true_eq] at h
    subst h; exact ha
  · exact same1_rep h ha
theorem same1_c1 {a b : V} (h : same1 a b = true) : c1 a = true → c1 b = true := by
  unfold same1 at h
  split at h <;> first | (intro _; rfl) | cases h
theorem sameS_c1 {a b : V} (h : sameS a b = true) : c1 a = true → c1 b = true := by
  unfold sameS at h
  split at h
  · intro _; rfl
  · exact same1_c1 h
theorem sameL_rep : ∀ {a b : List V} {cv : List Value}, sameL a b = true → RepL g a cv → RepL g b cv ∧ ((∀ c ∈ a, c1 c = true) → ∀ c ∈ b, c1 c = true)
  | [], [], cv, h, ha => ⟨ha, fun h => h⟩
  | x :: a, y :: b, cv, h, ha => by
    rw [sameL, Bool.and_eq_true] at h
    obtain ⟨v, vs, rfl, hv, hvs⟩ := ha.inv
    obtain ⟨h1, h2⟩ := sameL_rep h.2 hvs
    refine ⟨.cons (sameS_rep h.1 hv) h1, fun hc c hcm => ?_⟩
    rcases List.mem_cons.1 hcm with rfl | hcm
    · exact sameS_c1 h.1 (hc _ (by simp))
    · exact h2 (fun c hc' => hc c (by simp [hc'])) c hcm
  | [], _ :: _, cv, h, ha => by simp [sameL] at h
  | _ :: _, [], cv, h, ha => by simp [sameL] at h
theorem sameA_rep {a b : V} {cv : Value} (h : sameA a b = true) (ha : Rep g a cv) : Rep g b cv := by
  unfold sameA at h
  split at h
  · cases ha with | agg hl h1 => obtain ⟨h2, h3⟩ := sameL_rep h hl; exact .agg h2 (h3 h1)
  · exact sameS_rep h ha
theorem sameLA_rep : ∀ {a b : List V} {cv : List Value}, sameLA a b = true → RepL g a cv → RepL g b cv
  | [], [], cv, h, ha => ha
  | x :: a, y :: b, cv, h, ha => by
    rw [sameLA, Bool.and_eq_true] at h
    obtain ⟨v, vs, rfl, hv, hvs⟩ := ha.inv
    exact .cons (sameA_rep h.1 hv) (sameLA_rep h.2 hvs)
  | [], _ :: _, cv, h, ha => by simp [sameLA] at h
  | _ :: _, [], cv, h, ha => by simp [sameLA] at h
theorem sameV_rep {a b : V} {cv : Value} (h : sameV a b = true) (ha : Rep g a cv) : Rep g b cv := by
  unfold sameV at h
  split at h
  · cases ha with | tup hl => exact .tup (sameLA_rep h hl)
  · rw [Bool.and_eq_true, Nat.beq_eq] at h
    obtain ⟨rfl, h⟩ := h
    cases ha with | clo hl => exact .clo (sameLA_rep h hl)
  · exact sameA_rep h ha

/-- Taken. -/
def Lst (listed : Array Bool) (i : Nat) : Prop := listed[i]? = some true
/-- The run's own order, against the plan's. -/
structure Inv (ops : Array Oper) (ps : List Pre) (listed : Array Bool) (D must : Nat) (g : Env) (F : Fr) (m : Nat) (a : Act) : Prop where
  size : listed.size = ops.size
  sub : ∀ i, Lst listed i → tb D i = true
  acts : ∀ p ∈ ps, tb D p.i = true → p.st = false → p.fl = false → Lst listed p.i
  down : Down ops.toList (Lst listed)
  must : ∀ i, tb must i = true → Lst listed i
  sz : m = a.tmps.size
  defers : a.defers = []
  lt : ∀ t v, F.get t = some v → t < m
  slot : ∀ t v, F.get t = some v → (∀ q ∈ ps, q.o.dst = some t → tb D q.i = true → Lst listed q.i) → Rep g v (a.tmps.getD t undef)

theorem Inv.mono {g' : Env} (h : Inv ops ps listed D must g F m a) (hs : Sub g g') : Inv ops ps listed D must g' F m a :=
  ⟨h.size, h.sub, h.acts, h.down, h.must, h.sz, h.defers, h.lt, fun t v h1 h2 => (h.slot t v h1 h2).mono hs⟩
theorem Inv.slots (h : Inv ops ps listed D must g F m a) (ok : PsOk P ops.toList ps) {p : Pre} (hp : p ∈ ps) (hb : ∀ e ∈ bindOn p.o, Lst listed e) : SlotR g F a (tmpsOf ops.toList p.o) := fun t ht v hv =>
  h.slot t v hv fun q hq hd hD => by
    rcases ok.names p hp t ht q hq hd with h1 | h1
    · obtain ⟨_, he⟩ := ok.each; exact (he p hp).a _ h.down hb _ h1
    · exact h.acts q hq hD h1.1 h1.2
theorem PsOk.at' {all : List Oper} (ok : PsOk P all ps) {p : Pre} (hp : p ∈ ps) : all[p.i]? = some p.o := by obtain ⟨_, he⟩ := ok.each; exact (he p hp).at'
theorem PsOk.same (ok : PsOk P ops.toList ps) {p q : Pre} (hp : p ∈ ps) (hq : q ∈ ps) (h : p.i = q.i) : q.o = p.o ∧ q.st = p.st ∧ q.fl = p.fl := by
  have h1 := ok.at' hq
  have h2 := ok.at' hp
  rw [← h, h2] at h1; injection h1 with h1
  obtain ⟨_, he⟩ := ok.each
  exact ⟨h1.symm, by rw [(he q hq).st, (he p hp).st, h1], by rw [(he q hq).fl, (he p hp).fl, h1]⟩
theorem PsOk.lt (ok : PsOk P ops.toList ps) {p : Pre} (hp : p ∈ ps) : p.i < ops.size := by
  have := ok.at' hp
  rw [Array.getElem?_toList] at this
  exact (Array.getElem?_eq_some_iff.1 this).1
/-- The plan goes on alone. -/
theorem Inv.ahead (h : Inv ops ps listed D must g F m a) (ok : PsOk P ops.toList ps) {p : Pre} (hp : p ∈ ps) (hst : p.st = true ∨ p.fl = true) (hD : tb D p.i = false) {F' : Fr} {v : V}
    (hF : F' = F ∨ ∃ d, p.o.dst = some d ∧ d < m ∧ F' = F.set d (some v)) : Inv ops ps listed (bt D p.i) must g F' m a := by
  have hnl : ¬ Lst listed p.i := fun hl => by rw [h.sub _ hl] at hD; cases hD
  refine ⟨h.size, fun i hi => by rw [bt_bit, h.sub i hi]; rfl, fun q hq hb hs hs' => ?_, h.down, h.must, h.sz, h.defers, fun t u hu => ?_, fun t u hu hall => ?_⟩
  · rw [bt_bit, Bool.or_eq_true, decide_eq_true_eq] at hb
    rcases hb with hb | hb
    · exact h.acts q hq hb hs hs'
    · rw [(ok.same hp hq hb).2.1] at hs
      rw [(ok.same hp hq hb).2.2] at hs'
      rcases hst with hst | hst
      · rw [hst] at hs; cases hs
      · rw [hst] at hs'; cases hs'
  · rcases hF with rfl | ⟨d, hd, hlt, rfl⟩
    · exact h.lt t u hu
    · rcases T.get_set hu with ⟨rfl, _⟩ | ⟨_, hu⟩
      · exact hlt
      · exact h.lt t u hu
  · have hold : ∀ t, (∀ q ∈ ps, q.o.dst = some t → tb (bt D p.i) q.i = true → Lst listed q.i) → (∀ q ∈ ps, q.o.dst = some t → tb D q.i = true → Lst listed q.i) := fun t hall q hq hd hb => hall q hq hd (by rw [bt_bit, hb]; rfl)
    rcases hF with rfl | ⟨d, hd, _, rfl⟩
    · exact h.slot t u hu (hold t hall)
    · rcases T.get_set hu with ⟨rfl, _⟩ | ⟨_, hu⟩
      · exact absurd (hall p hp hd (by rw [bt_bit]; simp)) hnl
      · exact h.slot t u hu (hold t hall)

theorem lst_set {i j : Nat} (hi : i < listed.size) : Lst (listed.setIfInBounds i true) j ↔ Lst listed j ∨ j = i := by
  unfold Lst
  rw [Array.getElem?_setIfInBounds]
  by_cases h : i = j
  · subst h; simp [hi]
  · rw [if_neg h]; exact ⟨.inl, fun e => e.resolve_right fun e => h e.symm⟩
theorem put_get {o : Option Tmp} {cv : Value} {t : Nat} (h : o ≠ some t) : (a.put o cv).tmps.getD t undef = a.tmps.getD t undef := by
  unfold Act.put
  split
  · rename_i d
    have hne : d ≠ t := fun e => h (by rw [e])
    simp [Array.getElem?_setIfInBounds, hne]
  · rfl
theorem put_size {o : Option Tmp} {cv : Value} : (a.put o cv).tmps.size = a.tmps.size ∧ (a.put o cv).defers = a.defers := by
  unfold Act.put
  split <;> simp
/-- The run takes what the plan has taken before. -/
theorem Inv.after (h : Inv ops ps listed D must g F m a) (ok : PsOk P ops.toList ps) {p : Pre} (hp : p ∈ ps) (hD : tb D p.i = true) (hb : ∀ e ∈ bindOn p.o, Lst listed e) {cv : Value}
    (hu : ∀ d, p.o.dst = some d → ∃ u, F.get d = some u ∧ Rep g u cv) : Inv ops ps (listed.setIfInBounds p.i true) D must g F m (a.put p.o.dst cv) := by
  have hi : p.i < listed.size := by rw [h.size]; exact ok.lt hp
  refine ⟨by rw [Array.size_setIfInBounds]; exact h.size, fun i hl => ?_, fun q hq hq1 hq2 hq3 => (lst_set hi).2 (.inl (h.acts q hq hq1 hq2 hq3)), fun i o ho hl e he => (lst_set hi).2 (.inl ?_), fun i hm => (lst_set hi).2 (.inl (h.must i hm)), by rw [put_size.1]; exact h.sz, put_size.2.trans h.defers, h.lt, fun t x hx hall => ?_⟩
  · rcases (lst_set hi).1 hl with hl | rfl
    · exact h.sub i hl
    · exact hD
  · rcases (lst_set hi).1 hl with hl | rfl
    · exact h.down i o ho hl e he
    · have := ok.at' hp
      rw [this] at ho; injection ho with ho; subst ho
      exact hb e he
  · by_cases hd : p.o.dst = some t
    · obtain ⟨u, h1, h2⟩ := hu t hd
      rw [hx] at h1; injection h1 with h1; subst h1
      have hlt : t < a.tmps.size := by rw [← h.sz]; exact h.lt t _ hx
      rw [hd]
      simpa [Act.put, Array.getElem?_setIfInBounds, hlt] using h2
    · rw [put_get hd]
      refine h.slot t x hx fun q hq hqd hqD => ?_
      rcases (lst_set hi).1 (hall q hq hqd hqD) with hl | hl
      · exact hl
      · exact absurd ((ok.same hp hq hl.symm).1 ▸ hqd) hd
/-- The run and the plan take one together. -/
theorem Inv.both (h : Inv ops ps listed D must g F m a) (ok : PsOk P ops.toList ps) {p : Pre} (hp : p ∈ ps) (hb : ∀ e ∈ bindOn p.o, Lst listed e) {v : V} {cv : Value} (hv : Rep g v cv) {K : Fr → Option A} (hk : putK m F p.o.dst v K = some r) :
    ∃ F', K F' = some r ∧ Inv ops ps (listed.setIfInBounds p.i true) (bt D p.i) (Nat.lor (bt must p.i) p.a) g F' m (a.put p.o.dst cv) := by
  have hi : p.i < listed.size := by rw [h.size]; exact ok.lt hp
  have hl : ∀ j, Lst (listed.setIfInBounds p.i true) j ↔ Lst listed j ∨ j = p.i := fun j => lst_set hi
  have hdown : Down ops.toList (Lst (listed.setIfInBounds p.i true)) := fun i o ho hl' e he => (hl _).2 (.inl (by
    rcases (hl _).1 hl' with hl' | rfl
    · exact h.down i o ho hl' e he
    · have := ok.at' hp
      rw [this] at ho; injection ho with ho; subst ho
      exact hb e he))
  have base : ∀ F', (∀ t v, F'.get t = some v → t < m) → (∀ t x, F'.get t = some x → (∀ q ∈ ps, q.o.dst = some t → tb (bt D p.i) q.i = true → Lst (listed.setIfInBounds p.i true) q.i) → Rep g x ((a.put p.o.dst cv).tmps.getD t undef)) →
      Inv ops ps (listed.setIfInBounds p.i true) (bt D p.i) (Nat.lor (bt must p.i) p.a) g F' m (a.put p.o.dst cv) := fun F' hlt hsl => by
    refine ⟨by rw [Array.size_setIfInBounds]; exact h.size, fun i hl' => ?_, fun q hq hq1 hq2 hq3 => (hl _).2 ?_, hdown, fun i hm => ?_, by rw [put_size.1]; exact h.sz, put_size.2.trans h.defers, hlt, hsl⟩
    · rw [bt_bit, Bool.or_eq_true, decide_eq_true_eq]
      rcases (hl _).1 hl' with hl' | rfl
      · exact .inl (h.sub i hl')
      · exact .inr rfl
    · rw [bt_bit, Bool.or_eq_true, decide_eq_true_eq] at hq1
      rcases hq1 with hq1 | hq1
      · exact .inl (h.acts q hq hq1 hq2 hq3)
      · exact .inr hq1.symm
    · rw [lor_bit, bt_bit, Bool.or_eq_true, Bool.or_eq_true, decide_eq_true_eq] at hm
      rcases hm with (hm | rfl) | hm
      · exact (hl _).2 (.inl (h.must i hm))
      · exact (hl _).2 (.inr rfl)
      · obtain ⟨_, he⟩ := ok.each; exact (hl _).2 (.inl ((he p hp).a _ h.down hb _ hm))
  have old : ∀ t, p.o.dst ≠ some t → (∀ q ∈ ps, q.o.dst = some t → tb (bt D p.i) q.i = true → Lst (listed.setIfInBounds p.i true) q.i) → (∀ q ∈ ps, q.o.dst = some t → tb D q.i = true → Lst listed q.i) := fun t hd hall q hq hqd hqD => by
    rcases (hl _).1 (hall q hq hqd (by rw [bt_bit, hqD]; rfl)) with hl' | hl'
    · exact hl'
    · exact absurd ((ok.same hp hq hl'.symm).1 ▸ hqd) hd
  rcases putK_some hk with ⟨hd, hk⟩ | ⟨d, hd, hlt, hk⟩
  · refine ⟨F, hk, base F h.lt fun t x hx hall => ?_⟩
    rw [put_get (by rw [hd]; simp)]
    exact h.slot t x hx (old t (by rw [hd]; simp) hall)
  · refine ⟨_, hk, base _ (fun t x hx => ?_) fun t x hx hall => ?_⟩
    · rcases T.get_set hx with ⟨rfl, _⟩ | ⟨_, hx⟩
      · exact hlt
      · exact h.lt t x hx
    · rcases T.get_set hx with ⟨rfl, e⟩ | ⟨hne, hx⟩
      · injection e with e; subst e
        have hlt : t < a.tmps.size := by rw [← h.sz]; exact hlt
        rw [hd]
        simpa [Act.put, Array.getElem?_setIfInBounds, hlt] using hv
      · have hnd : p.o.dst ≠ some t := by rw [hd]; intro e; injection e with e; exact hne e.symm
        rw [put_get hnd]
        exact h.slot t x hx (old t hnd hall)
end Go.Eb
