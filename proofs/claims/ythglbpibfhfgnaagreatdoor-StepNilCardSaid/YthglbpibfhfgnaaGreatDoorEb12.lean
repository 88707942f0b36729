/-
The closed evaluator: what is known of the plan of a region.
-/
import Derived.Test.YthglbpibfhfgnaaGreatDoorEb11
set_option linter.unusedVariables false
set_option linter.unusedSimpArgs false
namespace Go.Eb
variable {A : Type} {P : Program}

theorem forceN_eq {α : Type} (n : Nat) (K : Nat → α) : forceN n K = K n := by cases n <;> rfl
theorem tb_eq (m i : Nat) : tb m i = m.testBit i := by
  unfold tb Nat.testBit
  rw [Bool.eq_iff_iff]
  simp only [bne_iff_ne, ne_eq, Nat.beq_eq]
  have h : Nat.land (Nat.shiftRight m i) 1 = 1 &&& m >>> i := Nat.and_comm _ _
  rw [h, Nat.one_and_eq_mod_two]
  omega
theorem bt_bit (m i j : Nat) : tb (bt m i) j = (tb m j || decide (i = j)) := by
  rw [tb_eq, tb_eq]
  show (m ||| 1 <<< i).testBit j = _
  rw [Nat.testBit_or, Nat.one_shiftLeft, Nat.testBit_two_pow]
theorem lor_bit (a b j : Nat) : tb (Nat.lor a b) j = (tb a j || tb b j) := by
  rw [tb_eq, tb_eq, tb_eq]
  show (a ||| b).testBit j = _
  rw [Nat.testBit_or]
theorem sub_bit {a b : Nat} (h : sub a b = true) {i : Nat} (hi : tb a i = true) : tb b i = true := by
  unfold sub at h
  rw [tb_eq] at *
  have h : a &&& b = a := Nat.eq_of_beq_eq_true h
  rw [← h, Nat.testBit_and, Bool.and_eq_true] at hi
  exact hi.2
theorem sub_of {a b : Nat} (h : ∀ i, tb a i = true → tb b i = true) : sub a b = true := by
  unfold sub
  have : a &&& b = a := by
    apply Nat.eq_of_testBit_eq
    intro i
    rw [Nat.testBit_and]
    have := h i
    rw [tb_eq, tb_eq] at this
    cases ha : a.testBit i with
    | false => rfl
    | true => rw [this ha]; rfl
  show Nat.beq (a &&& b) a = true
  rw [this]; exact Nat.beq_refl a
theorem tb_zero (i : Nat) : tb 0 i = false := by rw [tb_eq]; simp
theorem mask_bit {l : List Nat} {e : Nat} : tb (maskOf l) e = true ↔ e ∈ l := by
  induction l with
  | nil => simp [maskOf, tb_zero]
  | cons x l ih =>
    rw [maskOf, bt_bit, Bool.or_eq_true, ih, decide_eq_true_eq, List.mem_cons]
    constructor
    · rintro (h | h); exact .inr h; exact .inl h.symm
    · rintro (h | h); exact .inr h.symm; exact .inl h

/-- A set of operations with all that they wait for. -/
def Down (all : List Oper) (D : Nat → Prop) : Prop := ∀ i o, all[i]? = some o → D i → ∀ e ∈ bindOn o, D e
structure PreOk (P : Program) (fl : Bool) (all : List Oper) (p : Pre) : Prop where
  at' : all[p.i]? = some p.o
  lt : ∀ e ∈ bindOn p.o, e < p.i
  b : ∀ e, tb p.b e = true ↔ e ∈ bindOn p.o
  a : ∀ D, Down all D → (∀ e ∈ bindOn p.o, D e) → ∀ e, tb p.a e = true → D e
  st : p.st = stays P p.o.op
  fl : p.fl = (fl && isFlt p.o)
theorem stays_still {op : Op} (h : stays P op = true) : isStill P op = true := by
  unfold stays at h
  split at h
  · cases h
  · exact h

theorem nth_lt {α : Type} : ∀ {l : List α} {i : Nat} {x : α}, nth l i = some x → l[i]? = some x
  | [], i, x, h => by cases h
  | a :: l, 0, x, h => by simpa [nth] using h
  | a :: l, k + 1, x, h => by rw [nth] at h; simpa using nth_lt h

theorem closure_some {D : Nat → Prop} {tbl : List Nat} {i : Nat} (ht : ∀ e x, e < i → tbl[i - 1 - e]? = some x → D e → ∀ j, tb x j = true → D j) :
    ∀ {l : List Nat} {m x : Nat}, closure tbl i l m = some x → (∀ e ∈ l, e < i) ∧ ((∀ e ∈ l, D e) → (∀ j, tb m j = true → D j) → ∀ j, tb x j = true → D j)
  | [], m, x, h => by
    injection h with h; subst h
    exact ⟨by simp, fun _ h => h⟩
  | e :: l, m, x, h => by
    rw [closure] at h
    split at h
    · rename_i hb
      split at h
      · rename_i y hy
        have hlt : e < i := Nat.le_of_ble_eq_true hb
        obtain ⟨h1, h2⟩ := closure_some ht h
        refine ⟨fun k hk => by rcases List.mem_cons.1 hk with rfl | hk; exact hlt; exact h1 k hk, fun hD hm => h2 (fun k hk => hD k (by simp [hk])) fun j hj => ?_⟩
        rw [lor_bit, bt_bit, Bool.or_eq_true, Bool.or_eq_true, decide_eq_true_eq] at hj
        rcases hj with (hj | rfl) | hj
        · exact hm j hj
        · exact hD _ (by simp)
        · exact ht e y hlt (nth_lt hy) (hD e (by simp)) j hj
      · cases h
    · cases h

theorem mkPre_some {fl : Bool} {all : List Oper} : ∀ {l pre : List Oper} {tbl : List Nat} {acc ps : List Pre}, all = pre ++ l → mkPre P fl l pre.length tbl acc = some ps →
    (∀ D, Down all D → ∀ e x, e < pre.length → tbl[pre.length - 1 - e]? = some x → D e → ∀ j, tb x j = true → D j) → (∀ p ∈ acc, PreOk P fl all p) → (∀ i, i < pre.length → ∃ p ∈ acc, p.i = i) →
    (∀ p ∈ ps, PreOk P fl all p) ∧ ∀ i, i < all.length → ∃ p ∈ ps, p.i = i
  | [], pre, tbl, acc, ps, he, h, _, ha, hi => by
    injection h with h; subst h
    exact ⟨ha, fun i h => hi i (by simpa [he] using h)⟩
  | o :: l, pre, tbl, acc, ps, he, h, ht, ha, hi => by
    rw [mkPre] at h
    split at h
    · rename_i x hx
      rw [forceN_eq] at h
      have ho : all[pre.length]? = some o := by rw [he]; simp
      have hcl := fun D hD => closure_some (ht D hD) hx
      have hlt : ∀ e ∈ bindOn o, e < pre.length := (hcl (fun _ => True) (fun _ _ _ _ _ _ => trivial)).1
      have h : mkPre P fl l (pre ++ [o]).length (x :: tbl) (⟨pre.length, o, maskOf (bindOn o), x, stays P o.op, fl && isFlt o⟩ :: acc) = some ps := by simpa using h
      refine mkPre_some (by simp [he]) h (fun D hD e y hlt' hy hDe j hj => ?_) (fun p hp => ?_) fun i hi' => ?_
      · simp only [List.length_append, List.length_cons, List.length_nil, Nat.zero_add, Nat.add_sub_cancel] at hy hlt'
        by_cases hee : e = pre.length
        · subst hee
          simp only [Nat.sub_self, List.getElem?_cons_zero, Option.some.injEq] at hy
          subst hy
          exact (hcl D hD).2 (hD _ _ ho hDe) (by simp [tb_zero]) j hj
        · have : pre.length - e = (pre.length - 1 - e) + 1 := by omega
          rw [this, List.getElem?_cons_succ] at hy
          exact ht D hD e y (by omega) hy hDe j hj
      · rcases List.mem_cons.1 hp with rfl | hp
        · exact ⟨ho, hlt, fun e => mask_bit, fun D hD hb e he => (hcl D hD).2 hb (by simp [tb_zero]) e he, rfl, rfl⟩
        · exact ha p hp
      · by_cases hee : i = pre.length
        · exact ⟨_, List.mem_cons_self, hee.symm⟩
        · obtain ⟨p, hp, e⟩ := hi i (by simp at hi'; omega)
          exact ⟨p, by simp [hp], e⟩
    · cases h

structure PsOk (P : Program) (all : List Oper) (ps : List Pre) : Prop where
  each : ∃ fl, ∀ p ∈ ps, PreOk P fl all p
  full : ∀ i, i < all.length → ∃ p ∈ ps, p.i = i
  names : ∀ p ∈ ps, ∀ t ∈ tmpsOf all p.o, ∀ q ∈ ps, q.o.dst = some t → tb p.a q.i = true ∨ (q.st = false ∧ q.fl = false)
  flt : ∀ p ∈ ps, p.fl = true → ∀ q ∈ ps, ∀ d, q.o.dst = some d → d ≤ 1000000 ∧ (d ∈ tmpsOf all p.o → tb p.a q.i = true) ∧ (p.o.dst = some d → p.i = q.i)

theorem planBy_some {fl : Bool} {all : List Oper} {pl : Plan} (h : planBy P fl all = some pl) : ∃ ps, PsOk P all ps ∧ P.follows .mixedOrders = true ∧ mkPlan ps (all.length + 1) 0 0 [] = some pl := by
  unfold planBy at h
  split at h
  · rename_i ps hps
    split at h
    · rename_i hb
      rw [Bool.and_eq_true, Bool.and_eq_true] at hb
      have hp : mkPre P fl all ([] : List Oper).length [] [] = some ps := hps
      obtain ⟨h1, h2⟩ := mkPre_some (all := all) rfl hp (by simp) (by simp) (by simp)
      refine ⟨ps, ⟨⟨fl, h1⟩, h2, fun p hp t ht q hq hd => ?_, fun p hp hf q hq d hd => ?_⟩, hb.2, h⟩
      · have hn := hb.1.1
        unfold namesOk at hn
        have := List.all_eq_true.1 (List.all_eq_true.1 (List.all_eq_true.1 hn p hp) t ht) q hq
        have hdst : isDst t q = true := by unfold isDst; rw [hd]; exact Nat.beq_refl t
        rw [hdst] at this
        simpa using this
      · have hn := hb.1.2
        unfold fltOk at hn
        have := List.all_eq_true.1 hn p hp
        rw [hf] at this
        simp only [Bool.not_true, Bool.false_or] at this
        have := List.all_eq_true.1 this q hq
        rw [hd] at this
        simp only [Bool.and_eq_true] at this
        obtain ⟨⟨k1, k2⟩, k3⟩ := this
        refine ⟨Nat.le_of_ble_eq_true k1, fun hm => ?_, fun hd' => ?_⟩
        · have : (tmpsOf all p.o).contains d = true := by simpa using hm
          rw [this] at k2
          simpa using k2
        · rw [hd'] at k3
          simpa [Nat.beq_eq] using k3
    · cases h
  · cases h
theorem planOf_some {all : List Oper} {pl : Plan} (h : planOf P all = some pl) : ∃ ps, PsOk P all ps ∧ P.follows .mixedOrders = true ∧ mkPlan ps (all.length + 1) 0 0 [] = some pl := by
  unfold planOf at h
  split at h
  · rename_i p hp
    injection h with h; subst h
    exact planBy_some hp
  · exact planBy_some h
end Go.Eb
