/-
The closed evaluator: its finite maps, and what a run that came to an end has gone through.
-/
import Derived.Test.YthglbpibfhfgnaaGreatDoorEbDef
import Derived.IntWalk
set_option linter.unusedVariables false
namespace Go.Eb
open Go.Ev (szT byT aggO offT fszT TK kindT elemK zok LK leavesT)
variable {α β A : Type}

def T.setD : Nat → T α → Nat → Option α → T α
  | 0, _, _, _ => .e
  | d + 1, .e, k, v => if k = 0 then .n .e v .e else if k % 2 = 1 then .n (T.setD d .e (k / 2) v) none .e else .n .e none (T.setD d .e (k / 2 - 1) v)
  | d + 1, .n l u r, k, v => if k = 0 then .n l v r else if k % 2 = 1 then .n (T.setD d l (k / 2) v) u r else .n l u (T.setD d r (k / 2 - 1) v)
def T.set (t : T α) (k : Nat) (v : Option α) : T α := T.setD 64 t k v

theorem beq_rec {β : Type} (a b : Nat) (x y : β) : @Bool.rec (fun _ => β) x y (Nat.beq a b) = if a = b then y else x := by
  have : Nat.beq a b = decide (a = b) := by cases h : Nat.beq a b <;> simp [Nat.beq_eq] at h ⊢ <;> first | exact h | (intro e; simp [e] at h)
  rw [this]
  by_cases h : a = b <;> simp [h]

theorem T.get_e (k : Nat) : (T.e : T α).get k = none := rfl
theorem T.get_n (l r : T α) (v : Option α) (k : Nat) : (T.n l v r).get k = if k = 0 then v else if k % 2 = 1 then l.get (k / 2) else r.get (k / 2 - 1) := by
  show @Bool.rec (fun _ => Option α) (@Bool.rec (fun _ => Option α) (r.get (Nat.sub (Nat.div k 2) 1)) (l.get (Nat.div k 2)) (Nat.beq (Nat.mod k 2) 1)) v (Nat.beq k 0) = _
  rw [beq_rec, beq_rec]
  rfl

theorem T.setK_eq : ∀ (d : Nat) (t : T α) (k : Nat) (v : Option α) (K : T α → β), T.setK d t k v K = K (T.setD d t k v)
  | 0, t, k, v, K => by cases t <;> rfl
  | d + 1, .e, k, v, K => by
    show @Bool.rec (fun _ => β) (@Bool.rec (fun _ => β) (T.setK d .e (Nat.sub (Nat.div k 2) 1) v (fun r => K (.n .e none r))) (T.setK d .e (Nat.div k 2) v (fun l => K (.n l none .e))) (Nat.beq (Nat.mod k 2) 1)) (K (.n .e v .e)) (Nat.beq k 0) = _
    rw [beq_rec, beq_rec, T.setK_eq d, T.setK_eq d, T.setD]
    show (if k = 0 then _ else if k % 2 = 1 then K (.n (T.setD d .e (k / 2) v) none .e) else K (.n .e none (T.setD d .e (k / 2 - 1) v))) = _
    split
    · rfl
    · split <;> rfl
  | d + 1, .n l u r, k, v, K => by
    show @Bool.rec (fun _ => β) (@Bool.rec (fun _ => β) (T.setK d r (Nat.sub (Nat.div k 2) 1) v (fun r' => K (.n l u r'))) (T.setK d l (Nat.div k 2) v (fun l' => K (.n l' u r))) (Nat.beq (Nat.mod k 2) 1)) (K (.n l v r)) (Nat.beq k 0) = _
    rw [beq_rec, beq_rec, T.setK_eq d, T.setK_eq d, T.setD]
    show (if k = 0 then _ else if k % 2 = 1 then K (.n (T.setD d l (k / 2) v) u r) else K (.n l u (T.setD d r (k / 2 - 1) v))) = _
    split
    · rfl
    · split <;> rfl
theorem T.setK_set (t : T α) (k : Nat) (v : Option α) (K : T α → β) : T.setK 64 t k v K = K (t.set k v) := T.setK_eq 64 t k v K

theorem T.get_setD : ∀ (d : Nat) (t : T α) (k j : Nat) (v : Option α) (u : α), (T.setD d t k v).get j = some u → (j = k ∧ v = some u) ∨ (j ≠ k ∧ t.get j = some u)
  | 0, t, k, j, v, u, h => by simp [T.setD, T.get_e] at h
  | d + 1, .e, k, j, v, u, h => by
    rw [T.setD] at h
    split at h
    · rename_i hk
      rw [T.get_n] at h
      split at h
      · rename_i hj; exact .inl ⟨by omega, h⟩
      · split at h <;> simp [T.get_e] at h
    · rename_i hk
      split at h
      · rename_i hk1
        rw [T.get_n] at h
        split at h
        · simp at h
        · rename_i hj
          split at h
          · rename_i hj1
            rcases T.get_setD d .e _ _ _ _ h with ⟨h1, h2⟩ | ⟨h1, h2⟩
            · exact .inl ⟨by omega, h2⟩
            · simp [T.get_e] at h2
          · simp [T.get_e] at h
      · rename_i hk1
        rw [T.get_n] at h
        split at h
        · simp at h
        · rename_i hj
          split at h
          · simp [T.get_e] at h
          · rename_i hj1
            rcases T.get_setD d .e _ _ _ _ h with ⟨h1, h2⟩ | ⟨h1, h2⟩
            · exact .inl ⟨by omega, h2⟩
            · simp [T.get_e] at h2
  | d + 1, .n l w r, k, j, v, u, h => by
    rw [T.setD] at h
    split at h
    · rename_i hk
      rw [T.get_n] at h
      split at h
      · rename_i hj; exact .inl ⟨by omega, h⟩
      · rename_i hj
        refine .inr ⟨by omega, ?_⟩
        rw [T.get_n, if_neg hj]; exact h
    · rename_i hk
      split at h
      · rename_i hk1
        rw [T.get_n] at h
        split at h
        · rename_i hj; refine .inr ⟨by omega, ?_⟩; rw [T.get_n, if_pos hj]; exact h
        · rename_i hj
          split at h
          · rename_i hj1
            rcases T.get_setD d l _ _ _ _ h with ⟨h1, h2⟩ | ⟨h1, h2⟩
            · exact .inl ⟨by omega, h2⟩
            · refine .inr ⟨fun e => h1 (by rw [e]), ?_⟩; rw [T.get_n, if_neg hj, if_pos hj1]; exact h2
          · rename_i hj1
            refine .inr ⟨fun e => hj1 (by rw [e]; exact hk1), ?_⟩; rw [T.get_n, if_neg hj, if_neg hj1]; exact h
      · rename_i hk1
        rw [T.get_n] at h
        split at h
        · rename_i hj; refine .inr ⟨by omega, ?_⟩; rw [T.get_n, if_pos hj]; exact h
        · rename_i hj
          split at h
          · rename_i hj1
            refine .inr ⟨fun e => hk1 (by rw [← e]; exact hj1), ?_⟩; rw [T.get_n, if_neg hj, if_pos hj1]; exact h
          · rename_i hj1
            rcases T.get_setD d r _ _ _ _ h with ⟨h1, h2⟩ | ⟨h1, h2⟩
            · exact .inl ⟨by omega, h2⟩
            · refine .inr ⟨fun e => h1 (by rw [e]), ?_⟩; rw [T.get_n, if_neg hj, if_neg hj1]; exact h2
theorem T.get_set {t : T α} {k j : Nat} {v : Option α} {u : α} (h : (t.set k v).get j = some u) : (j = k ∧ v = some u) ∨ (j ≠ k ∧ t.get j = some u) := T.get_setD 64 t k j v u h

/-! ### What came to an end -/
theorem ob_some {o : Option α} {K : α → Option A} {r : A} (h : ob o K = some r) : ∃ v, o = some v ∧ K v = some r := by
  cases o with
  | none => simp [ob] at h
  | some v => exact ⟨v, rfl, h⟩
theorem bb_some {b : Bool} {K : Option A} {r : A} (h : bb b K = some r) : b = true ∧ K = some r := by
  cases b with
  | false => simp [bb] at h
  | true => exact ⟨rfl, h⟩
theorem kB_eq (K : V → Mm → Nat → Option A) (M : Mm) (n : Nat) (b : Bool) : kB K M n b = K (.bool b) M n := by cases b <;> rfl
theorem forceI_eq (x : Int) (K : Int → Option A) : forceI x K = K x := by
  cases x with
  | ofNat m => cases m <;> rfl
  | negSucc m => cases m <;> rfl
theorem kN_eq (K : V → Mm → Nat → Option A) (M : Mm) (n x : Nat) : kN K M n x = K (.int .i64 x) M n := by unfold kN; rw [forceI_eq]; rfl
theorem mxK_eq (k : IntKind) : (mxK k : Int) = k.max := by cases k <;> rfl
theorem wrap_in {k : IntKind} {n : Int} (h0 : k.min ≤ n) (h1 : n ≤ k.max) : k.wrap n = n := by
  cases k
  · exact IntWalk.i8_in n ⟨h0, h1⟩
  · exact IntWalk.i16_in n ⟨h0, h1⟩
  · exact IntWalk.i32_in n ⟨h0, h1⟩
  · exact IntWalk.i64_in n ⟨h0, h1⟩
  · exact IntWalk.u8_in n ⟨h0, h1⟩
  · exact IntWalk.u16_in n ⟨h0, h1⟩
  · exact IntWalk.u32_in n ⟨h0, h1⟩
  · exact IntWalk.u64_in n ⟨h0, h1⟩
theorem wr_eq (k : IntKind) (n : Int) : wr k n = k.wrap n := by
  unfold wr
  split
  · rename_i m
    split
    · rename_i h
      have h := Nat.le_of_ble_eq_true h
      have hm := mxK_eq k
      exact (wrap_in (by have : k.min ≤ 0 := by cases k <;> decide
                         show k.min ≤ ((m : Nat) : Int); omega) (by show ((m : Nat) : Int) ≤ _; omega)).symm
    · rfl
  · rename_i m
    split
    · rename_i h
      simp only [Bool.and_eq_true, Nat.ble_eq] at h
      obtain ⟨h1, h2⟩ := h
      have hm := mxK_eq k
      have hs : k.min = - (k.max + 1) := by cases k <;> first | (exact absurd h1 (by decide)) | decide
      exact (wrap_in (by rw [hs, ← hm, Int.negSucc_eq]; omega) (by have : 0 ≤ k.max := by cases k <;> decide
                                                                   rw [Int.negSucc_eq]; omega)).symm
    · rfl
theorem kI_eq (K : V → Mm → Nat → Option A) (M : Mm) (n : Nat) (k : IntKind) (x : Int) : kI K M n k x = K (.int k (k.wrap x)) M n := by unfold kI; rw [forceI_eq, wr_eq]
theorem leI_eq (a b : Int) : leI a b = decide (a ≤ b) := by
  unfold leI
  split
  · rename_i a b; rw [Bool.eq_iff_iff, Nat.ble_eq]; simp
  · rename_i a b; simp; omega
  · rename_i a b; simp; omega
  · rename_i a b; rw [Bool.eq_iff_iff, Nat.ble_eq]; simp; omega
theorem nbeq (a b : Nat) : Nat.beq a b = decide (a = b) := by rw [Bool.eq_iff_iff]; simp [Nat.beq_eq]
theorem eqI_eq (a b : Int) : eqI a b = decide (a = b) := by
  unfold eqI
  split
  · rename_i a b; rw [nbeq]; by_cases h : a = b <;> simp [h]; intro e; exact h (by omega)
  · rename_i a b; rw [nbeq]; by_cases h : a = b <;> simp [h]
  · rename_i h1 h2
    cases a <;> cases b <;> first | exact (h1 _ _ rfl rfl).elim | exact (h2 _ _ rfl rfl).elim | simp
theorem eqL_eq : ∀ (a b : List Nat), eqL a b = decide (a = b)
  | [], [] => rfl
  | [], _ :: _ => by show false = _; simp
  | _ :: _, [] => by show false = _; simp
  | x :: a, y :: b => by
    show @Bool.rec (fun _ => Bool) false (eqL a b) (Nat.beq x y) = _
    rw [beq_rec, eqL_eq a b]
    by_cases h : x = y <;> simp [h]
def ltS : List Nat → List Nat → Bool
  | _, [] => false
  | [], _ :: _ => true
  | a :: x, b :: y => decide (a < b) || (decide (a = b) && ltS x y)
theorem ltL_eq : ∀ (a b : List Nat), ltL a b = ltS a b
  | [], [] => rfl
  | [], _ :: _ => rfl
  | _ :: _, [] => rfl
  | x :: a, y :: b => by
    show @Bool.rec (fun _ => Bool) (@Bool.rec (fun _ => Bool) false (ltL a b) (Nat.beq x y)) true (Nat.ble (Nat.succ x) y) = _
    rw [beq_rec, ltL_eq a b, ltS]
    have : Nat.ble (Nat.succ x) y = decide (x < y) := by rw [Bool.eq_iff_iff, Nat.ble_eq]; simp; omega
    rw [this]
    by_cases h : x < y <;> by_cases h2 : x = y <;> simp [h, h2] <;> omega
theorem opndsK_some {F : Fr} : ∀ {xs : List Operand} {K : List V → Option A} {r : A}, opndsK F xs K = some r → ∃ vs, xs.mapM (opnd F) = some vs ∧ K vs = some r
  | [], K, r, h => ⟨[], rfl, h⟩
  | x :: xs, K, r, h => by
    have h : ob (opnd F x) (fun v => opndsK F xs fun vs => K (v :: vs)) = some r := h
    obtain ⟨v, hv, h⟩ := ob_some h
    obtain ⟨vs, hvs, h⟩ := opndsK_some h
    exact ⟨v :: vs, by simp [List.mapM_cons, hv, hvs], h⟩
theorem readK_some {c : T V} : ∀ {n off : Nat} {K : List V → Option A} {r : A}, readK c off n K = some r → ∃ vs, vs.length = n ∧ (∀ i v, vs[i]? = some v → c.get (off + i) = some v) ∧ K vs = some r
  | 0, off, K, r, h => ⟨[], rfl, by simp, h⟩
  | n + 1, off, K, r, h => by
    have h : ob (c.get off) (fun v => readK c (Nat.succ off) n fun vs => K (v :: vs)) = some r := h
    obtain ⟨v, hv, h⟩ := ob_some h
    obtain ⟨vs, hl, hg, h⟩ := readK_some h
    refine ⟨v :: vs, by simp [hl], fun i u hi => ?_, h⟩
    cases i with
    | zero => simp at hi; subst hi; exact hv
    | succ i => simp at hi; have := hg i u hi; rw [show off + (i + 1) = Nat.succ off + i by omega]; exact this
theorem writeK_some : ∀ {vs : List V} {c : T V} {off : Nat} {K : T V → Option A} {r : A}, writeK c off vs K = some r →
    ∃ c', (∀ j u, c'.get j = some u → (off ≤ j ∧ vs[j - off]? = some u) ∨ ((j < off ∨ off + vs.length ≤ j) ∧ c.get j = some u)) ∧ K c' = some r
  | [], c, off, K, r, h => ⟨c, fun j u hj => .inr ⟨by simp; omega, hj⟩, h⟩
  | v :: vs, c, off, K, r, h => by
    have h : T.setK 64 c off (some v) (fun c => writeK c (Nat.succ off) vs K) = some r := h
    rw [T.setK_set] at h
    obtain ⟨c', hc, h⟩ := writeK_some h
    refine ⟨c', fun j u hj => ?_, h⟩
    rcases hc j u hj with ⟨h1, h2⟩ | ⟨h1, h2⟩
    · refine .inl ⟨by omega, ?_⟩
      obtain ⟨i, rfl⟩ : ∃ i, j = off + (i + 1) := ⟨j - off - 1, by omega⟩
      rw [show off + (i + 1) - off = i + 1 by omega]
      rw [show off + (i + 1) - Nat.succ off = i by omega] at h2
      simpa using h2
    · rcases T.get_set h2 with ⟨rfl, h3⟩ | ⟨h3, h4⟩
      · injection h3 with h3; subst h3
        exact .inl ⟨Nat.le_refl _, by simp⟩
      · refine .inr ⟨?_, h4⟩
        simp only [List.length_cons]; omega
theorem newB_eq (M : Mm) (n : Nat) (b : Blk) (K : Mm → Nat → Option A) : newB M n b K = K (M.set n (some b)) (n + 1) := T.setK_set _ _ _ _
theorem newCells_some {M : Mm} {n : Nat} {ex : Bool} {vs : List V} {K : Mm → Nat → Option A} {r : A} (h : newCells M n ex vs K = some r) :
    ∃ c, (∀ j u, c.get j = some u → vs[j]? = some u) ∧ K (M.set n (some (.cells vs.length ex c))) (n + 1) = some r := by
  unfold newCells at h
  obtain ⟨c, hc, h⟩ := writeK_some h
  rw [newB_eq] at h
  refine ⟨c, fun j u hj => ?_, h⟩
  rcases hc j u hj with ⟨_, h2⟩ | ⟨_, h2⟩
  · simpa using h2
  · simp [T.get_e] at h2
theorem cellsAt_some {M : Mm} {id : Nat} {K : Nat → Bool → T V → Option A} {r : A} (h : cellsAt M id K = some r) : ∃ n ex c, M.get id = some (.cells n ex c) ∧ K n ex c = some r := by
  unfold cellsAt at h
  obtain ⟨b, hb, h⟩ := ob_some h
  cases b with
  | cells n ex c => exact ⟨n, ex, c, hb, h⟩
  | _ => cases h
theorem mapAt_some {M : Mm} {id : Nat} {K : List (V × V × Nat) → Nat → Option A} {r : A} (h : mapAt M id K = some r) : ∃ es c, M.get id = some (.map es c) ∧ K es c = some r := by
  unfold mapAt at h
  obtain ⟨b, hb, h⟩ := ob_some h
  cases b with
  | map es c => exact ⟨es, c, hb, h⟩
  | _ => cases h
theorem putK_some {m : Nat} {F : Fr} {d : Option Tmp} {v : V} {K : Fr → Option A} {r : A} (h : putK m F d v K = some r) :
    (d = none ∧ K F = some r) ∨ (∃ d', d = some d' ∧ d' < m ∧ K (F.set d' (some v)) = some r) := by
  cases d with
  | none => exact .inl ⟨rfl, h⟩
  | some d =>
    obtain ⟨h1, h2⟩ := bb_some h
    rw [T.setK_set] at h2
    exact .inr ⟨d, rfl, Nat.le_of_ble_eq_true h1, h2⟩
end Go.Eb
