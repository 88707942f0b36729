import Derived.Test.YtlkcehghfhdbjaaT5
set_option linter.unusedVariables false
set_option linter.unusedSimpArgs false
set_option linter.unusedVariables false
set_option linter.unusedSimpArgs false
namespace Go.Ev
set_option maxRecDepth 100000
set_option maxHeartbeats 0
open Go.Proofs
/-! The reference's table. -/
def rset (L : List RecA) (r : RecA) : List RecA := L.filter (fun x => !decide (x.key = r.key)) ++ (if r.gone = true then [] else [r])
def rapplyL (L q : List RecA) : List RecA := q.foldl rset L
theorem rset_len {L : List RecA} {r : RecA} : (rset L r).length ≤ L.length + 1 := by
  unfold rset
  have := List.length_filter_le (fun x => !decide (x.key = r.key)) L
  split <;> simp <;> omega
theorem rapplyL_len {L q : List RecA} : (rapplyL L q).length ≤ L.length + q.length := by
  unfold rapplyL
  induction q generalizing L with
  | nil => simp
  | cons r q ih =>
    have h1 := ih (L := rset L r)
    have h2 := rset_len (L := L) (r := r)
    simp only [List.foldl_cons, List.length_cons]
    omega
theorem rapplyL_succ {l q : List RecA} {i : Nat} (h : i < q.length) : rapplyL l (q.take (i + 1)) = rset (rapplyL l (q.take i)) q[i] := by
  rw [take_succ' h, rapplyL, List.foldl_append]; rfl
theorem rrise_is {fl : Bool} {q : List RecA} {b : Bool} (h : riseL q = b) : Spec Try.prog 49 [.lst fl 5 (q.map encA)] (.bool b) [.lst fl 5 (q.map encA)] := h ▸ rrise_spec fl q
theorem rcopy_spec (nx : Int) (L : List RecA) (hl : L.length ≤ 100000) : Spec Try.prog 24 [.optr (.agg [.int .i64 nx, .olst 5 (L.map encA)]) 0] (.optr (.agg [.int .i64 nx, .olst 5 (L.map encA)]) 0) [.optr (.agg [.int .i64 nx, .olst 5 (L.map encA)]) 0] := by
  refine spec_run (P := Try.prog) (f := 24) (fn := Try.f24) (by kernel_rfl) (by kernel_rfl) rfl (by simp [Try.f24]) ?_; simp (maxSteps := 1000000) (disch := omega) only [push_cast, go_sem, Nat.reduceEqDiff, ↓reduceIte, reduceCtorEq, Nat.reduceAdd, Nat.reduceSub, Nat.reduceLeDiff, Nat.reduceLT, Int.reduceLT, Int.reduceLE, Int.reduceEq, Int.reduceNeg, Nat.reduceMul, Int.reduceAdd, Int.reduceToNat, Try.f24, *]
  repeat' (first
    | with_reducible refine And.intro ?_ ?_
    | (with_reducible intro hx; (try simp only [false_dec, true_dec, Int.ofNat_inj, gt_iff_lt, ge_iff_le, decide_eq_true_eq, decide_eq_false_iff_not, Bool.not_eq_true', Bool.not_eq_false', Bool.and_eq_true, Bool.or_eq_false_iff, ne_eq, Classical.not_not] at hx); (first | (exfalso; omega) | (try simp (maxSteps := 1000000) (disch := omega) only [push_cast, go_sem, Nat.reduceEqDiff, ↓reduceIte, reduceCtorEq, Nat.reduceAdd, Nat.reduceSub, Nat.reduceLeDiff, Nat.reduceLT, Int.reduceLT, Int.reduceLE, Int.reduceEq, Int.reduceNeg, Nat.reduceMul, Int.reduceAdd, Int.reduceToNat, *])))
    | (with_reducible refine branch_t ?_; (try simp (maxSteps := 1000000) (disch := omega) only [push_cast, go_sem, Nat.reduceEqDiff, ↓reduceIte, reduceCtorEq, Nat.reduceAdd, Nat.reduceSub, Nat.reduceLeDiff, Nat.reduceLT, Int.reduceLT, Int.reduceLE, Int.reduceEq, Int.reduceNeg, Nat.reduceMul, Int.reduceAdd, Int.reduceToNat, *]))
    | (with_reducible refine branch_f ?_; (try simp (maxSteps := 1000000) (disch := omega) only [push_cast, go_sem, Nat.reduceEqDiff, ↓reduceIte, reduceCtorEq, Nat.reduceAdd, Nat.reduceSub, Nat.reduceLeDiff, Nat.reduceLT, Int.reduceLT, Int.reduceLE, Int.reduceEq, Int.reduceNeg, Nat.reduceMul, Int.reduceAdd, Int.reduceToNat, *]))
    | (with_reducible refine cond_split ?_ ?_)
    | (with_reducible refine guard_split ?_ ?_)
    | ((with_reducible refine drw_open 0 ?_); simp (maxSteps := 1000000) (disch := omega) only [push_cast, go_sem, Nat.reduceEqDiff, ↓reduceIte, reduceCtorEq, Nat.reduceAdd, Nat.reduceSub, Nat.reduceLeDiff, Nat.reduceLT, Int.reduceLT, Int.reduceLE, Int.reduceEq, Int.reduceNeg, Nat.reduceMul, Int.reduceAdd, Int.reduceToNat, *]; (with_reducible refine drw_id ?_))
    | ((with_reducible refine drw_open 1 ?_); simp (maxSteps := 1000000) (disch := omega) only [push_cast, go_sem, Nat.reduceEqDiff, ↓reduceIte, reduceCtorEq, Nat.reduceAdd, Nat.reduceSub, Nat.reduceLeDiff, Nat.reduceLT, Int.reduceLT, Int.reduceLE, Int.reduceEq, Int.reduceNeg, Nat.reduceMul, Int.reduceAdd, Int.reduceToNat, *]; (with_reducible refine drw_id ?_))
    | ((with_reducible refine drw_open 2 ?_); simp (maxSteps := 1000000) (disch := omega) only [push_cast, go_sem, Nat.reduceEqDiff, ↓reduceIte, reduceCtorEq, Nat.reduceAdd, Nat.reduceSub, Nat.reduceLeDiff, Nat.reduceLT, Int.reduceLT, Int.reduceLE, Int.reduceEq, Int.reduceNeg, Nat.reduceMul, Int.reduceAdd, Int.reduceToNat, *]; (with_reducible refine drw_id ?_))
    | ((with_reducible refine drw_plan pl24_0 ?_ ?_ ?_); (focus decide +kernel); (focus rfl); (try simp (maxSteps := 1000000) (disch := omega) only [push_cast, go_sem, Nat.reduceEqDiff, ↓reduceIte, reduceCtorEq, Nat.reduceAdd, Nat.reduceSub, Nat.reduceLeDiff, Nat.reduceLT, Int.reduceLT, Int.reduceLE, Int.reduceEq, Int.reduceNeg, Nat.reduceMul, Int.reduceAdd, Int.reduceToNat, *]); (fail_if_success (with_reducible change False)))
    | ((with_reducible refine drw_intro ?_ ?_); (focus decide +kernel); (try simp (maxSteps := 1000000) (disch := omega) only [push_cast, go_sem, Nat.reduceEqDiff, ↓reduceIte, reduceCtorEq, Nat.reduceAdd, Nat.reduceSub, Nat.reduceLeDiff, Nat.reduceLT, Int.reduceLT, Int.reduceLE, Int.reduceEq, Int.reduceNeg, Nat.reduceMul, Int.reduceAdd, Int.reduceToNat, *]))
    | (with_reducible refine still_split ?_ ?_)
    | omega)
def getF (L : List RecA) (k : List UInt8) : RecA := (fnd L k).getD zeroRec
theorem fnd_drop {L : List RecA} {k : List UInt8} {i : Nat} (h : i < L.length) : fnd (L.drop i) k = if L[i].key = k then some L[i] else fnd (L.drop (i + 1)) k := by
  rw [List.drop_eq_getElem_cons h, fnd_cons]
theorem rget_spec (nx : Int) (L : List RecA) (k : List UInt8) : Spec Try.prog 44 [.optr (.agg [.int .i64 nx, .olst 5 (L.map encA)]) 0, .str (ofL k)] (.tup [encA (getF L k), .bool (fnd L k).isSome]) [.optr (.agg [.int .i64 nx, .olst 5 (L.map encA)]) 0, .str (ofL k)] := by
  obtain ⟨R, hR⟩ : ∃ R, fnd L k = R := ⟨_, rfl⟩
  unfold getF
  rw [hR]
  refine spec_run (P := Try.prog) (f := 44) (fn := Try.f44) (by kernel_rfl) (by kernel_rfl) rfl (by simp [Try.f44]) ?_; simp (maxSteps := 1000000) (disch := omega) only [push_cast, go_sem, Nat.reduceEqDiff, ↓reduceIte, reduceCtorEq, Nat.reduceAdd, Nat.reduceSub, Nat.reduceLeDiff, Nat.reduceLT, Int.reduceLT, Int.reduceLE, Int.reduceEq, Int.reduceNeg, Nat.reduceMul, Int.reduceAdd, Int.reduceToNat, Try.f44, *]
  repeat' (first
    | with_reducible refine And.intro ?_ ?_
    | (with_reducible intro hx; (try simp only [false_dec, true_dec, Int.ofNat_inj, gt_iff_lt, ge_iff_le, decide_eq_true_eq, decide_eq_false_iff_not, Bool.not_eq_true', Bool.not_eq_false', Bool.and_eq_true, Bool.or_eq_false_iff, ne_eq, Classical.not_not] at hx); (first | (exfalso; omega) | (try simp (maxSteps := 1000000) (disch := omega) only [push_cast, go_sem, Nat.reduceEqDiff, ↓reduceIte, reduceCtorEq, Nat.reduceAdd, Nat.reduceSub, Nat.reduceLeDiff, Nat.reduceLT, Int.reduceLT, Int.reduceLE, Int.reduceEq, Int.reduceNeg, Nat.reduceMul, Int.reduceAdd, Int.reduceToNat, *])))
    | (with_reducible refine branch_t ?_; (try simp (maxSteps := 1000000) (disch := omega) only [push_cast, go_sem, Nat.reduceEqDiff, ↓reduceIte, reduceCtorEq, Nat.reduceAdd, Nat.reduceSub, Nat.reduceLeDiff, Nat.reduceLT, Int.reduceLT, Int.reduceLE, Int.reduceEq, Int.reduceNeg, Nat.reduceMul, Int.reduceAdd, Int.reduceToNat, *]))
    | (with_reducible refine branch_f ?_; (try simp (maxSteps := 1000000) (disch := omega) only [push_cast, go_sem, Nat.reduceEqDiff, ↓reduceIte, reduceCtorEq, Nat.reduceAdd, Nat.reduceSub, Nat.reduceLeDiff, Nat.reduceLT, Int.reduceLT, Int.reduceLE, Int.reduceEq, Int.reduceNeg, Nat.reduceMul, Int.reduceAdd, Int.reduceToNat, *]))
    | (with_reducible refine cond_split ?_ ?_)
    | (with_reducible refine guard_split ?_ ?_)
    | ((with_reducible refine drw_open 0 ?_); simp (maxSteps := 1000000) (disch := omega) only [push_cast, go_sem, Nat.reduceEqDiff, ↓reduceIte, reduceCtorEq, Nat.reduceAdd, Nat.reduceSub, Nat.reduceLeDiff, Nat.reduceLT, Int.reduceLT, Int.reduceLE, Int.reduceEq, Int.reduceNeg, Nat.reduceMul, Int.reduceAdd, Int.reduceToNat, *]; (with_reducible refine drw_id ?_))
    | ((with_reducible refine drw_open 1 ?_); simp (maxSteps := 1000000) (disch := omega) only [push_cast, go_sem, Nat.reduceEqDiff, ↓reduceIte, reduceCtorEq, Nat.reduceAdd, Nat.reduceSub, Nat.reduceLeDiff, Nat.reduceLT, Int.reduceLT, Int.reduceLE, Int.reduceEq, Int.reduceNeg, Nat.reduceMul, Int.reduceAdd, Int.reduceToNat, *]; (with_reducible refine drw_id ?_))
    | ((with_reducible refine drw_open 2 ?_); simp (maxSteps := 1000000) (disch := omega) only [push_cast, go_sem, Nat.reduceEqDiff, ↓reduceIte, reduceCtorEq, Nat.reduceAdd, Nat.reduceSub, Nat.reduceLeDiff, Nat.reduceLT, Int.reduceLT, Int.reduceLE, Int.reduceEq, Int.reduceNeg, Nat.reduceMul, Int.reduceAdd, Int.reduceToNat, *]; (with_reducible refine drw_id ?_))
    | ((with_reducible refine drw_intro ?_ ?_); (focus decide +kernel); (try simp (maxSteps := 1000000) (disch := omega) only [push_cast, go_sem, Nat.reduceEqDiff, ↓reduceIte, reduceCtorEq, Nat.reduceAdd, Nat.reduceSub, Nat.reduceLeDiff, Nat.reduceLT, Int.reduceLT, Int.reduceLE, Int.reduceEq, Int.reduceNeg, Nat.reduceMul, Int.reduceAdd, Int.reduceToNat, *]))
    | (with_reducible refine still_split ?_ ?_)
    | omega)
  refine loop_by (σ := Nat) (fun i N => ([(13, .int .i64 i), (12, .int .i64 L.length), (11, .row 2 L.length 0 L.length), (5, .bool false), (4, .loc 1 0), (0, .loc 0 0), (1, .str (ofL k))],
      [(0, .obj (.agg [.int .i64 nx, .row 2 L.length 0 L.length])), (2, .row 5 (L.map encA) false), (1, .obj (.agg [.int .i64 0, .str (ofL []), .str (ofL []), .bool false, .int .i64 0]))]))
    (fun i => i ≤ L.length ∧ fnd (L.drop i) k = R) (fun i => L.length - i) 0 _ (by simp [hR]) (by simp (maxSteps := 1000000) (disch := omega) only [push_cast, go_sem, Nat.reduceEqDiff, ↓reduceIte, reduceCtorEq, Nat.reduceAdd, Nat.reduceSub, Nat.reduceLeDiff, Nat.reduceLT, Int.reduceLT, Int.reduceLE, Int.reduceEq, Int.reduceNeg, Nat.reduceMul, Int.reduceAdd, Int.reduceToNat, *]) (by simp (maxSteps := 1000000) (disch := omega) only [push_cast, go_sem, Nat.reduceEqDiff, ↓reduceIte, reduceCtorEq, Nat.reduceAdd, Nat.reduceSub, Nat.reduceLeDiff, Nat.reduceLT, Int.reduceLT, Int.reduceLE, Int.reduceEq, Int.reduceNeg, Nat.reduceMul, Int.reduceAdd, Int.reduceToNat, *]) (Nat.le_refl _) ?_
  rintro i N hN ⟨hi, hinv⟩
  simp (maxSteps := 1000000) (disch := omega) only [push_cast, go_sem, Nat.reduceEqDiff, ↓reduceIte, reduceCtorEq, Nat.reduceAdd, Nat.reduceSub, Nat.reduceLeDiff, Nat.reduceLT, Int.reduceLT, Int.reduceLE, Int.reduceEq, Int.reduceNeg, Nat.reduceMul, Int.reduceAdd, Int.reduceToNat, *]
  repeat' (first
    | with_reducible refine And.intro ?_ ?_
    | (with_reducible intro hx; (try simp only [false_dec, true_dec, Int.ofNat_inj, gt_iff_lt, ge_iff_le, decide_eq_true_eq, decide_eq_false_iff_not, Bool.not_eq_true', Bool.not_eq_false', Bool.and_eq_true, Bool.or_eq_false_iff, ne_eq, Classical.not_not] at hx); (first | (exfalso; omega) | (try simp (maxSteps := 1000000) (disch := omega) only [push_cast, go_sem, Nat.reduceEqDiff, ↓reduceIte, reduceCtorEq, Nat.reduceAdd, Nat.reduceSub, Nat.reduceLeDiff, Nat.reduceLT, Int.reduceLT, Int.reduceLE, Int.reduceEq, Int.reduceNeg, Nat.reduceMul, Int.reduceAdd, Int.reduceToNat, *])))
    | (with_reducible refine branch_t ?_; (try simp (maxSteps := 1000000) (disch := omega) only [push_cast, go_sem, Nat.reduceEqDiff, ↓reduceIte, reduceCtorEq, Nat.reduceAdd, Nat.reduceSub, Nat.reduceLeDiff, Nat.reduceLT, Int.reduceLT, Int.reduceLE, Int.reduceEq, Int.reduceNeg, Nat.reduceMul, Int.reduceAdd, Int.reduceToNat, *]))
    | (with_reducible refine branch_f ?_; (try simp (maxSteps := 1000000) (disch := omega) only [push_cast, go_sem, Nat.reduceEqDiff, ↓reduceIte, reduceCtorEq, Nat.reduceAdd, Nat.reduceSub, Nat.reduceLeDiff, Nat.reduceLT, Int.reduceLT, Int.reduceLE, Int.reduceEq, Int.reduceNeg, Nat.reduceMul, Int.reduceAdd, Int.reduceToNat, *]))
    | (with_reducible refine cond_split ?_ ?_)
    | (with_reducible refine guard_split ?_ ?_)
    | ((with_reducible refine drw_open 0 ?_); simp (maxSteps := 1000000) (disch := omega) only [push_cast, go_sem, Nat.reduceEqDiff, ↓reduceIte, reduceCtorEq, Nat.reduceAdd, Nat.reduceSub, Nat.reduceLeDiff, Nat.reduceLT, Int.reduceLT, Int.reduceLE, Int.reduceEq, Int.reduceNeg, Nat.reduceMul, Int.reduceAdd, Int.reduceToNat, *]; (with_reducible refine drw_id ?_))
    | ((with_reducible refine drw_open 1 ?_); simp (maxSteps := 1000000) (disch := omega) only [push_cast, go_sem, Nat.reduceEqDiff, ↓reduceIte, reduceCtorEq, Nat.reduceAdd, Nat.reduceSub, Nat.reduceLeDiff, Nat.reduceLT, Int.reduceLT, Int.reduceLE, Int.reduceEq, Int.reduceNeg, Nat.reduceMul, Int.reduceAdd, Int.reduceToNat, *]; (with_reducible refine drw_id ?_))
    | ((with_reducible refine drw_open 2 ?_); simp (maxSteps := 1000000) (disch := omega) only [push_cast, go_sem, Nat.reduceEqDiff, ↓reduceIte, reduceCtorEq, Nat.reduceAdd, Nat.reduceSub, Nat.reduceLeDiff, Nat.reduceLT, Int.reduceLT, Int.reduceLE, Int.reduceEq, Int.reduceNeg, Nat.reduceMul, Int.reduceAdd, Int.reduceToNat, *]; (with_reducible refine drw_id ?_))
    | ((with_reducible refine drw_intro ?_ ?_); (focus decide +kernel); (try simp (maxSteps := 1000000) (disch := omega) only [push_cast, go_sem, Nat.reduceEqDiff, ↓reduceIte, reduceCtorEq, Nat.reduceAdd, Nat.reduceSub, Nat.reduceLeDiff, Nat.reduceLT, Int.reduceLT, Int.reduceLE, Int.reduceEq, Int.reduceNeg, Nat.reduceMul, Int.reduceAdd, Int.reduceToNat, *]))
    | (with_reducible refine still_split ?_ ?_)
    | omega)
  · rw [fnd_drop (by assumption), if_pos hx] at hinv
    subst hinv
    simp [encA, hx]
  · rw [fnd_drop (by assumption), if_neg hx] at hinv
    refine loop_end (i + 1) _ (by omega) ⟨by omega, hinv⟩ (by omega) (by simp (maxSteps := 1000000) (disch := omega) only [push_cast, go_sem, Nat.reduceEqDiff, ↓reduceIte, reduceCtorEq, Nat.reduceAdd, Nat.reduceSub, Nat.reduceLeDiff, Nat.reduceLT, Int.reduceLT, Int.reduceLE, Int.reduceEq, Int.reduceNeg, Nat.reduceMul, Int.reduceAdd, Int.reduceToNat, *]) (by simp (maxSteps := 1000000) (disch := omega) only [push_cast, go_sem, Nat.reduceEqDiff, ↓reduceIte, reduceCtorEq, Nat.reduceAdd, Nat.reduceSub, Nat.reduceLeDiff, Nat.reduceLT, Int.reduceLT, Int.reduceLE, Int.reduceEq, Int.reduceNeg, Nat.reduceMul, Int.reduceAdd, Int.reduceToNat, *]) (Nat.le_refl _)
  · rw [List.drop_eq_nil_of_le (by omega)] at hinv
    subst hinv
    rfl
theorem rapply_ok {fl : Bool} {nx : Int} {L q : List RecA} (hl : L.length + q.length ≤ 10000) (hok : okQ nx q = true) : Spec Try.prog 43 [.optr (.agg [.int .i64 nx, .olst 5 (L.map encA)]) 0, .lst fl 5 (q.map encA)] (.int .i64 0)
    [.optr (.agg [.int .i64 (applyN nx q), .olst 5 ((rapplyL L q).map encA)]) 0, .lst fl 5 (q.map encA)] := by
  have hb := okQ_iff.1 hok
  have hr : riseL q = true := riseL_pair.2 hb.1
  have core : (∀ h : 0 < q.length, nx ≤ q[0].off ∧ q[q.length - 1].off ≤ 1099511627776) := fun h => ⟨(hb.2 _ (List.getElem_mem _)).1, (hb.2 _ (List.getElem_mem _)).2⟩
  have done : ∀ (h : 0 < q.length ∨ q = []), True := fun _ => trivial
  by_cases h0 : 0 < q.length
  · have h1 := core h0
    refine spec_run (P := Try.prog) (f := 43) (fn := Try.f43) (by kernel_rfl) (by kernel_rfl) rfl (by simp [Try.f43]) ?_; simp (maxSteps := 1000000) (disch := omega) only [push_cast, go_sem, Nat.reduceEqDiff, ↓reduceIte, reduceCtorEq, Nat.reduceAdd, Nat.reduceSub, Nat.reduceLeDiff, Nat.reduceLT, Int.reduceLT, Int.reduceLE, Int.reduceEq, Int.reduceNeg, Nat.reduceMul, Int.reduceAdd, Int.reduceToNat, Try.f43, *]
    repeat' (first
    | with_reducible refine And.intro ?_ ?_
    | (with_reducible intro hx; (try simp only [false_dec, true_dec, Int.ofNat_inj, gt_iff_lt, ge_iff_le, decide_eq_true_eq, decide_eq_false_iff_not, Bool.not_eq_true', Bool.not_eq_false', Bool.and_eq_true, Bool.or_eq_false_iff, ne_eq, Classical.not_not] at hx); (first | (exfalso; omega) | (try simp (maxSteps := 1000000) (disch := omega) only [push_cast, go_sem, Nat.reduceEqDiff, ↓reduceIte, reduceCtorEq, Nat.reduceAdd, Nat.reduceSub, Nat.reduceLeDiff, Nat.reduceLT, Int.reduceLT, Int.reduceLE, Int.reduceEq, Int.reduceNeg, Nat.reduceMul, Int.reduceAdd, Int.reduceToNat, *])))
    | (with_reducible refine branch_t ?_; (try simp (maxSteps := 1000000) (disch := omega) only [push_cast, go_sem, Nat.reduceEqDiff, ↓reduceIte, reduceCtorEq, Nat.reduceAdd, Nat.reduceSub, Nat.reduceLeDiff, Nat.reduceLT, Int.reduceLT, Int.reduceLE, Int.reduceEq, Int.reduceNeg, Nat.reduceMul, Int.reduceAdd, Int.reduceToNat, *]))
    | (with_reducible refine branch_f ?_; (try simp (maxSteps := 1000000) (disch := omega) only [push_cast, go_sem, Nat.reduceEqDiff, ↓reduceIte, reduceCtorEq, Nat.reduceAdd, Nat.reduceSub, Nat.reduceLeDiff, Nat.reduceLT, Int.reduceLT, Int.reduceLE, Int.reduceEq, Int.reduceNeg, Nat.reduceMul, Int.reduceAdd, Int.reduceToNat, *]))
    | (with_reducible refine cond_split ?_ ?_)
    | (with_reducible refine guard_split ?_ ?_)
    | ((with_reducible refine drw_open 0 ?_); simp (maxSteps := 1000000) (disch := omega) only [push_cast, go_sem, Nat.reduceEqDiff, ↓reduceIte, reduceCtorEq, Nat.reduceAdd, Nat.reduceSub, Nat.reduceLeDiff, Nat.reduceLT, Int.reduceLT, Int.reduceLE, Int.reduceEq, Int.reduceNeg, Nat.reduceMul, Int.reduceAdd, Int.reduceToNat, *]; (with_reducible refine drw_id ?_))
    | ((with_reducible refine drw_open 1 ?_); simp (maxSteps := 1000000) (disch := omega) only [push_cast, go_sem, Nat.reduceEqDiff, ↓reduceIte, reduceCtorEq, Nat.reduceAdd, Nat.reduceSub, Nat.reduceLeDiff, Nat.reduceLT, Int.reduceLT, Int.reduceLE, Int.reduceEq, Int.reduceNeg, Nat.reduceMul, Int.reduceAdd, Int.reduceToNat, *]; (with_reducible refine drw_id ?_))
    | ((with_reducible refine drw_open 2 ?_); simp (maxSteps := 1000000) (disch := omega) only [push_cast, go_sem, Nat.reduceEqDiff, ↓reduceIte, reduceCtorEq, Nat.reduceAdd, Nat.reduceSub, Nat.reduceLeDiff, Nat.reduceLT, Int.reduceLT, Int.reduceLE, Int.reduceEq, Int.reduceNeg, Nat.reduceMul, Int.reduceAdd, Int.reduceToNat, *]; (with_reducible refine drw_id ?_))
    | ((with_reducible refine drw_plan pl43_0 ?_ ?_ ?_); (focus decide +kernel); (focus rfl); (try simp (maxSteps := 1000000) (disch := omega) only [push_cast, go_sem, Nat.reduceEqDiff, ↓reduceIte, reduceCtorEq, Nat.reduceAdd, Nat.reduceSub, Nat.reduceLeDiff, Nat.reduceLT, Int.reduceLT, Int.reduceLE, Int.reduceEq, Int.reduceNeg, Nat.reduceMul, Int.reduceAdd, Int.reduceToNat, *]); (fail_if_success (with_reducible change False)))
    | ((with_reducible refine drw_intro ?_ ?_); (focus decide +kernel); (try simp (maxSteps := 1000000) (disch := omega) only [push_cast, go_sem, Nat.reduceEqDiff, ↓reduceIte, reduceCtorEq, Nat.reduceAdd, Nat.reduceSub, Nat.reduceLeDiff, Nat.reduceLT, Int.reduceLT, Int.reduceLE, Int.reduceEq, Int.reduceNeg, Nat.reduceMul, Int.reduceAdd, Int.reduceToNat, *]))
    | (with_reducible refine still_split ?_ ?_)
    | ((with_reducible refine call_by2 [] (rrise_is hr) (by first | (refine ⟨?_, ?_, ?_, ?_⟩ <;> ((try simp (maxSteps := 1000000) (disch := omega) only [push_cast, go_sem, Nat.reduceEqDiff, ↓reduceIte, reduceCtorEq, Nat.reduceAdd, Nat.reduceSub, Nat.reduceLeDiff, Nat.reduceLT, Int.reduceLT, Int.reduceLE, Int.reduceEq, Int.reduceNeg, Nat.reduceMul, Int.reduceAdd, Int.reduceToNat, *]); (try rfl); (try omega); done)) | fail) ?_) <;> (try simp (maxSteps := 1000000) (disch := omega) only [push_cast, go_sem, Nat.reduceEqDiff, ↓reduceIte, reduceCtorEq, Nat.reduceAdd, Nat.reduceSub, Nat.reduceLeDiff, Nat.reduceLT, Int.reduceLT, Int.reduceLE, Int.reduceEq, Int.reduceNeg, Nat.reduceMul, Int.reduceAdd, Int.reduceToNat, *]))
    | omega)
    refine loop_byN (σ := Nat × Nat) (fun x N => ([(41, .int .i64 x.1), (40, .int .i64 q.length), (39, .lst fl 5 (q.map encA)), (4, .int .i64 0), (0, .loc 0 0), (1, .lst fl 5 (q.map encA))],
        [(0, .obj (.agg [.int .i64 (applyN nx (q.take x.1)), .row x.2 (rapplyL L (q.take x.1)).length 0 (rapplyL L (q.take x.1)).length])), (x.2, .row 5 ((rapplyL L (q.take x.1)).map encA) false)]))
      (fun x N => x.1 ≤ q.length ∧ x.2 ≠ 0 ∧ x.2 < N) (fun x => q.length - x.1) (0, 1) _ (by simp) (by simp (maxSteps := 1000000) (disch := omega) only [push_cast, go_sem, Nat.reduceEqDiff, ↓reduceIte, reduceCtorEq, Nat.reduceAdd, Nat.reduceSub, Nat.reduceLeDiff, Nat.reduceLT, Int.reduceLT, Int.reduceLE, Int.reduceEq, Int.reduceNeg, Nat.reduceMul, Int.reduceAdd, Int.reduceToNat, *]) (by simp (maxSteps := 1000000) (disch := omega) only [push_cast, go_sem, Nat.reduceEqDiff, ↓reduceIte, reduceCtorEq, Nat.reduceAdd, Nat.reduceSub, Nat.reduceLeDiff, Nat.reduceLT, Int.reduceLT, Int.reduceLE, Int.reduceEq, Int.reduceNeg, Nat.reduceMul, Int.reduceAdd, Int.reduceToNat, *] <;> simp [applyN, rapplyL]) (Nat.le_refl _) ?_
    rintro ⟨i, k⟩ N hN ⟨hi, hk0, hkN⟩
    dsimp only at hi hk0 hkN
    dsimp only
    have hTl := rapplyL_len (L := L) (q := q.take i)
    rw [List.length_take] at hTl
    by_cases hlt : i < q.length
    · have eN := applyN_succ (nx := nx) hlt
      have eT := rapplyL_succ (l := L) hlt
      obtain ⟨T, hT⟩ : ∃ T, rapplyL L (q.take i) = T := ⟨_, rfl⟩
      rw [hT] at hTl eT ⊢
      simp (maxSteps := 1000000) (disch := omega) only [push_cast, go_sem, Nat.reduceEqDiff, ↓reduceIte, reduceCtorEq, Nat.reduceAdd, Nat.reduceSub, Nat.reduceLeDiff, Nat.reduceLT, Int.reduceLT, Int.reduceLE, Int.reduceEq, Int.reduceNeg, Nat.reduceMul, Int.reduceAdd, Int.reduceToNat, *]
      repeat' (first
    | with_reducible refine And.intro ?_ ?_
    | (with_reducible intro hx; (try simp only [false_dec, true_dec, Int.ofNat_inj, gt_iff_lt, ge_iff_le, decide_eq_true_eq, decide_eq_false_iff_not, Bool.not_eq_true', Bool.not_eq_false', Bool.and_eq_true, Bool.or_eq_false_iff, ne_eq, Classical.not_not] at hx); (first | (exfalso; omega) | (try simp (maxSteps := 1000000) (disch := omega) only [push_cast, go_sem, Nat.reduceEqDiff, ↓reduceIte, reduceCtorEq, Nat.reduceAdd, Nat.reduceSub, Nat.reduceLeDiff, Nat.reduceLT, Int.reduceLT, Int.reduceLE, Int.reduceEq, Int.reduceNeg, Nat.reduceMul, Int.reduceAdd, Int.reduceToNat, *])))
    | (with_reducible refine branch_t ?_; (try simp (maxSteps := 1000000) (disch := omega) only [push_cast, go_sem, Nat.reduceEqDiff, ↓reduceIte, reduceCtorEq, Nat.reduceAdd, Nat.reduceSub, Nat.reduceLeDiff, Nat.reduceLT, Int.reduceLT, Int.reduceLE, Int.reduceEq, Int.reduceNeg, Nat.reduceMul, Int.reduceAdd, Int.reduceToNat, *]))
    | (with_reducible refine branch_f ?_; (try simp (maxSteps := 1000000) (disch := omega) only [push_cast, go_sem, Nat.reduceEqDiff, ↓reduceIte, reduceCtorEq, Nat.reduceAdd, Nat.reduceSub, Nat.reduceLeDiff, Nat.reduceLT, Int.reduceLT, Int.reduceLE, Int.reduceEq, Int.reduceNeg, Nat.reduceMul, Int.reduceAdd, Int.reduceToNat, *]))
    | (with_reducible refine cond_split ?_ ?_)
    | (with_reducible refine guard_split ?_ ?_)
    | ((with_reducible refine drw_open 0 ?_); simp (maxSteps := 1000000) (disch := omega) only [push_cast, go_sem, Nat.reduceEqDiff, ↓reduceIte, reduceCtorEq, Nat.reduceAdd, Nat.reduceSub, Nat.reduceLeDiff, Nat.reduceLT, Int.reduceLT, Int.reduceLE, Int.reduceEq, Int.reduceNeg, Nat.reduceMul, Int.reduceAdd, Int.reduceToNat, *]; (with_reducible refine drw_id ?_))
    | ((with_reducible refine drw_open 1 ?_); simp (maxSteps := 1000000) (disch := omega) only [push_cast, go_sem, Nat.reduceEqDiff, ↓reduceIte, reduceCtorEq, Nat.reduceAdd, Nat.reduceSub, Nat.reduceLeDiff, Nat.reduceLT, Int.reduceLT, Int.reduceLE, Int.reduceEq, Int.reduceNeg, Nat.reduceMul, Int.reduceAdd, Int.reduceToNat, *]; (with_reducible refine drw_id ?_))
    | ((with_reducible refine drw_open 2 ?_); simp (maxSteps := 1000000) (disch := omega) only [push_cast, go_sem, Nat.reduceEqDiff, ↓reduceIte, reduceCtorEq, Nat.reduceAdd, Nat.reduceSub, Nat.reduceLeDiff, Nat.reduceLT, Int.reduceLT, Int.reduceLE, Int.reduceEq, Int.reduceNeg, Nat.reduceMul, Int.reduceAdd, Int.reduceToNat, *]; (with_reducible refine drw_id ?_))
    | ((with_reducible refine drw_plan pl43_0 ?_ ?_ ?_); (focus decide +kernel); (focus rfl); (try simp (maxSteps := 1000000) (disch := omega) only [push_cast, go_sem, Nat.reduceEqDiff, ↓reduceIte, reduceCtorEq, Nat.reduceAdd, Nat.reduceSub, Nat.reduceLeDiff, Nat.reduceLT, Int.reduceLT, Int.reduceLE, Int.reduceEq, Int.reduceNeg, Nat.reduceMul, Int.reduceAdd, Int.reduceToNat, *]); (fail_if_success (with_reducible change False)))
    | ((with_reducible refine drw_intro ?_ ?_); (focus decide +kernel); (try simp (maxSteps := 1000000) (disch := omega) only [push_cast, go_sem, Nat.reduceEqDiff, ↓reduceIte, reduceCtorEq, Nat.reduceAdd, Nat.reduceSub, Nat.reduceLeDiff, Nat.reduceLT, Int.reduceLT, Int.reduceLE, Int.reduceEq, Int.reduceNeg, Nat.reduceMul, Int.reduceAdd, Int.reduceToNat, *]))
    | (with_reducible refine still_split ?_ ?_)
    | omega)
      refine loop_by (σ := Nat × List RecA) (fun x N' => ([(50, .int .i64 x.1), (49, .int .i64 T.length), (48, .row k T.length 0 T.length), (7, .row (N + 1) x.2.length 0 x.2.length), (6, .loc N 0), (41, .int .i64 i), (40, .int .i64 q.length), (39, .lst fl 5 (q.map encA)), (4, .int .i64 0), (0, .loc 0 0), (1, .lst fl 5 (q.map encA))],
          [(N + 1, .row 5 (x.2.map encA) false), (N, .obj (encA q[i])), (0, .obj (.agg [.int .i64 (applyN nx (q.take i)), .row k T.length 0 T.length])), (k, .row 5 (T.map encA) false)]))
        (fun x => x.1 ≤ T.length ∧ x.2 = (T.take x.1).filter fun y => !decide (y.key = q[i].key)) (fun x => T.length - x.1) (0, []) _ (by simp) (by simp (maxSteps := 1000000) (disch := omega) only [push_cast, go_sem, Nat.reduceEqDiff, ↓reduceIte, reduceCtorEq, Nat.reduceAdd, Nat.reduceSub, Nat.reduceLeDiff, Nat.reduceLT, Int.reduceLT, Int.reduceLE, Int.reduceEq, Int.reduceNeg, Nat.reduceMul, Int.reduceAdd, Int.reduceToNat, *]) (by simp (maxSteps := 1000000) (disch := omega) only [push_cast, go_sem, Nat.reduceEqDiff, ↓reduceIte, reduceCtorEq, Nat.reduceAdd, Nat.reduceSub, Nat.reduceLeDiff, Nat.reduceLT, Int.reduceLT, Int.reduceLE, Int.reduceEq, Int.reduceNeg, Nat.reduceMul, Int.reduceAdd, Int.reduceToNat, *] <;> rfl) (Nat.le_refl _) ?_
      rintro ⟨j, o⟩ N' hN' ⟨hj, ho⟩
      dsimp only at hj ho
      have hol : o.length ≤ j := by
        rw [ho]; exact Nat.le_trans (List.length_filter_le _ _) (by rw [List.length_take]; omega)
      dsimp only
      by_cases hjl : j < T.length
      · have hs : ((T.take (j + 1)).filter fun y => !decide (y.key = q[i].key)) = o ++ if T[j].key = q[i].key then [] else [T[j]] := by
          rw [take_succ' hjl, List.filter_append, ← ho]
          congr 1
          by_cases h : T[j].key = q[i].key <;> simp [h]
        clear ho
        simp (maxSteps := 1000000) (disch := omega) only [push_cast, go_sem, Nat.reduceEqDiff, ↓reduceIte, reduceCtorEq, Nat.reduceAdd, Nat.reduceSub, Nat.reduceLeDiff, Nat.reduceLT, Int.reduceLT, Int.reduceLE, Int.reduceEq, Int.reduceNeg, Nat.reduceMul, Int.reduceAdd, Int.reduceToNat, *]
        repeat' (first
    | with_reducible refine And.intro ?_ ?_
    | (with_reducible intro hx; (try simp only [false_dec, true_dec, Int.ofNat_inj, gt_iff_lt, ge_iff_le, decide_eq_true_eq, decide_eq_false_iff_not, Bool.not_eq_true', Bool.not_eq_false', Bool.and_eq_true, Bool.or_eq_false_iff, ne_eq, Classical.not_not] at hx); (first | (exfalso; omega) | (try simp (maxSteps := 1000000) (disch := omega) only [push_cast, go_sem, Nat.reduceEqDiff, ↓reduceIte, reduceCtorEq, Nat.reduceAdd, Nat.reduceSub, Nat.reduceLeDiff, Nat.reduceLT, Int.reduceLT, Int.reduceLE, Int.reduceEq, Int.reduceNeg, Nat.reduceMul, Int.reduceAdd, Int.reduceToNat, *])))
    | (with_reducible refine branch_t ?_; (try simp (maxSteps := 1000000) (disch := omega) only [push_cast, go_sem, Nat.reduceEqDiff, ↓reduceIte, reduceCtorEq, Nat.reduceAdd, Nat.reduceSub, Nat.reduceLeDiff, Nat.reduceLT, Int.reduceLT, Int.reduceLE, Int.reduceEq, Int.reduceNeg, Nat.reduceMul, Int.reduceAdd, Int.reduceToNat, *]))
    | (with_reducible refine branch_f ?_; (try simp (maxSteps := 1000000) (disch := omega) only [push_cast, go_sem, Nat.reduceEqDiff, ↓reduceIte, reduceCtorEq, Nat.reduceAdd, Nat.reduceSub, Nat.reduceLeDiff, Nat.reduceLT, Int.reduceLT, Int.reduceLE, Int.reduceEq, Int.reduceNeg, Nat.reduceMul, Int.reduceAdd, Int.reduceToNat, *]))
    | (with_reducible refine cond_split ?_ ?_)
    | (with_reducible refine guard_split ?_ ?_)
    | ((with_reducible refine drw_open 0 ?_); simp (maxSteps := 1000000) (disch := omega) only [push_cast, go_sem, Nat.reduceEqDiff, ↓reduceIte, reduceCtorEq, Nat.reduceAdd, Nat.reduceSub, Nat.reduceLeDiff, Nat.reduceLT, Int.reduceLT, Int.reduceLE, Int.reduceEq, Int.reduceNeg, Nat.reduceMul, Int.reduceAdd, Int.reduceToNat, *]; (with_reducible refine drw_id ?_))
    | ((with_reducible refine drw_open 1 ?_); simp (maxSteps := 1000000) (disch := omega) only [push_cast, go_sem, Nat.reduceEqDiff, ↓reduceIte, reduceCtorEq, Nat.reduceAdd, Nat.reduceSub, Nat.reduceLeDiff, Nat.reduceLT, Int.reduceLT, Int.reduceLE, Int.reduceEq, Int.reduceNeg, Nat.reduceMul, Int.reduceAdd, Int.reduceToNat, *]; (with_reducible refine drw_id ?_))
    | ((with_reducible refine drw_open 2 ?_); simp (maxSteps := 1000000) (disch := omega) only [push_cast, go_sem, Nat.reduceEqDiff, ↓reduceIte, reduceCtorEq, Nat.reduceAdd, Nat.reduceSub, Nat.reduceLeDiff, Nat.reduceLT, Int.reduceLT, Int.reduceLE, Int.reduceEq, Int.reduceNeg, Nat.reduceMul, Int.reduceAdd, Int.reduceToNat, *]; (with_reducible refine drw_id ?_))
    | ((with_reducible refine drw_plan pl43_0 ?_ ?_ ?_); (focus decide +kernel); (focus rfl); (try simp (maxSteps := 1000000) (disch := omega) only [push_cast, go_sem, Nat.reduceEqDiff, ↓reduceIte, reduceCtorEq, Nat.reduceAdd, Nat.reduceSub, Nat.reduceLeDiff, Nat.reduceLT, Int.reduceLT, Int.reduceLE, Int.reduceEq, Int.reduceNeg, Nat.reduceMul, Int.reduceAdd, Int.reduceToNat, *]); (fail_if_success (with_reducible change False)))
    | ((with_reducible refine drw_intro ?_ ?_); (focus decide +kernel); (try simp (maxSteps := 1000000) (disch := omega) only [push_cast, go_sem, Nat.reduceEqDiff, ↓reduceIte, reduceCtorEq, Nat.reduceAdd, Nat.reduceSub, Nat.reduceLeDiff, Nat.reduceLT, Int.reduceLT, Int.reduceLE, Int.reduceEq, Int.reduceNeg, Nat.reduceMul, Int.reduceAdd, Int.reduceToNat, *]))
    | (with_reducible refine still_split ?_ ?_)
    | omega)
        · refine loop_end (j + 1, o ++ [T[j]]) _ (by omega) ⟨by dsimp only; omega, by dsimp only; rw [hs, if_neg hx]⟩ (by dsimp only; omega) (by simp (maxSteps := 1000000) (disch := omega) only [push_cast, go_sem, Nat.reduceEqDiff, ↓reduceIte, reduceCtorEq, Nat.reduceAdd, Nat.reduceSub, Nat.reduceLeDiff, Nat.reduceLT, Int.reduceLT, Int.reduceLE, Int.reduceEq, Int.reduceNeg, Nat.reduceMul, Int.reduceAdd, Int.reduceToNat, *] <;> simp) (by simp (maxSteps := 1000000) (disch := omega) only [push_cast, go_sem, Nat.reduceEqDiff, ↓reduceIte, reduceCtorEq, Nat.reduceAdd, Nat.reduceSub, Nat.reduceLeDiff, Nat.reduceLT, Int.reduceLT, Int.reduceLE, Int.reduceEq, Int.reduceNeg, Nat.reduceMul, Int.reduceAdd, Int.reduceToNat, *] <;> simp <;> rfl) (Nat.le_refl _)
        · refine loop_end (j + 1, o) _ (by omega) ⟨by dsimp only; omega, by dsimp only; rw [hs, if_pos hx, List.append_nil]⟩ (by dsimp only; omega) (by simp (maxSteps := 1000000) (disch := omega) only [push_cast, go_sem, Nat.reduceEqDiff, ↓reduceIte, reduceCtorEq, Nat.reduceAdd, Nat.reduceSub, Nat.reduceLeDiff, Nat.reduceLT, Int.reduceLT, Int.reduceLE, Int.reduceEq, Int.reduceNeg, Nat.reduceMul, Int.reduceAdd, Int.reduceToNat, *]) (by simp (maxSteps := 1000000) (disch := omega) only [push_cast, go_sem, Nat.reduceEqDiff, ↓reduceIte, reduceCtorEq, Nat.reduceAdd, Nat.reduceSub, Nat.reduceLeDiff, Nat.reduceLT, Int.reduceLT, Int.reduceLE, Int.reduceEq, Int.reduceNeg, Nat.reduceMul, Int.reduceAdd, Int.reduceToNat, *]) (Nat.le_refl _)
      · rw [List.take_of_length_le (by omega)] at ho
        have hr1 : q[i].gone = true → rset T q[i] = o := fun h => by rw [rset, ← ho, h]; simp
        have hr2 : q[i].gone = false → rset T q[i] = o ++ [q[i]] := fun h => by rw [rset, ← ho, h]; simp
        clear ho
        simp (maxSteps := 1000000) (disch := omega) only [push_cast, go_sem, Nat.reduceEqDiff, ↓reduceIte, reduceCtorEq, Nat.reduceAdd, Nat.reduceSub, Nat.reduceLeDiff, Nat.reduceLT, Int.reduceLT, Int.reduceLE, Int.reduceEq, Int.reduceNeg, Nat.reduceMul, Int.reduceAdd, Int.reduceToNat, *]
        repeat' (first
    | with_reducible refine And.intro ?_ ?_
    | (with_reducible intro hx; (try simp only [false_dec, true_dec, Int.ofNat_inj, gt_iff_lt, ge_iff_le, decide_eq_true_eq, decide_eq_false_iff_not, Bool.not_eq_true', Bool.not_eq_false', Bool.and_eq_true, Bool.or_eq_false_iff, ne_eq, Classical.not_not] at hx); (first | (exfalso; omega) | (try simp (maxSteps := 1000000) (disch := omega) only [push_cast, go_sem, Nat.reduceEqDiff, ↓reduceIte, reduceCtorEq, Nat.reduceAdd, Nat.reduceSub, Nat.reduceLeDiff, Nat.reduceLT, Int.reduceLT, Int.reduceLE, Int.reduceEq, Int.reduceNeg, Nat.reduceMul, Int.reduceAdd, Int.reduceToNat, *])))
    | (with_reducible refine branch_t ?_; (try simp (maxSteps := 1000000) (disch := omega) only [push_cast, go_sem, Nat.reduceEqDiff, ↓reduceIte, reduceCtorEq, Nat.reduceAdd, Nat.reduceSub, Nat.reduceLeDiff, Nat.reduceLT, Int.reduceLT, Int.reduceLE, Int.reduceEq, Int.reduceNeg, Nat.reduceMul, Int.reduceAdd, Int.reduceToNat, *]))
    | (with_reducible refine branch_f ?_; (try simp (maxSteps := 1000000) (disch := omega) only [push_cast, go_sem, Nat.reduceEqDiff, ↓reduceIte, reduceCtorEq, Nat.reduceAdd, Nat.reduceSub, Nat.reduceLeDiff, Nat.reduceLT, Int.reduceLT, Int.reduceLE, Int.reduceEq, Int.reduceNeg, Nat.reduceMul, Int.reduceAdd, Int.reduceToNat, *]))
    | (with_reducible refine cond_split ?_ ?_)
    | (with_reducible refine guard_split ?_ ?_)
    | ((with_reducible refine drw_open 0 ?_); simp (maxSteps := 1000000) (disch := omega) only [push_cast, go_sem, Nat.reduceEqDiff, ↓reduceIte, reduceCtorEq, Nat.reduceAdd, Nat.reduceSub, Nat.reduceLeDiff, Nat.reduceLT, Int.reduceLT, Int.reduceLE, Int.reduceEq, Int.reduceNeg, Nat.reduceMul, Int.reduceAdd, Int.reduceToNat, *]; (with_reducible refine drw_id ?_))
    | ((with_reducible refine drw_open 1 ?_); simp (maxSteps := 1000000) (disch := omega) only [push_cast, go_sem, Nat.reduceEqDiff, ↓reduceIte, reduceCtorEq, Nat.reduceAdd, Nat.reduceSub, Nat.reduceLeDiff, Nat.reduceLT, Int.reduceLT, Int.reduceLE, Int.reduceEq, Int.reduceNeg, Nat.reduceMul, Int.reduceAdd, Int.reduceToNat, *]; (with_reducible refine drw_id ?_))
    | ((with_reducible refine drw_open 2 ?_); simp (maxSteps := 1000000) (disch := omega) only [push_cast, go_sem, Nat.reduceEqDiff, ↓reduceIte, reduceCtorEq, Nat.reduceAdd, Nat.reduceSub, Nat.reduceLeDiff, Nat.reduceLT, Int.reduceLT, Int.reduceLE, Int.reduceEq, Int.reduceNeg, Nat.reduceMul, Int.reduceAdd, Int.reduceToNat, *]; (with_reducible refine drw_id ?_))
    | ((with_reducible refine drw_plan pl43_0 ?_ ?_ ?_); (focus decide +kernel); (focus rfl); (try simp (maxSteps := 1000000) (disch := omega) only [push_cast, go_sem, Nat.reduceEqDiff, ↓reduceIte, reduceCtorEq, Nat.reduceAdd, Nat.reduceSub, Nat.reduceLeDiff, Nat.reduceLT, Int.reduceLT, Int.reduceLE, Int.reduceEq, Int.reduceNeg, Nat.reduceMul, Int.reduceAdd, Int.reduceToNat, *]); (fail_if_success (with_reducible change False)))
    | ((with_reducible refine drw_intro ?_ ?_); (focus decide +kernel); (try simp (maxSteps := 1000000) (disch := omega) only [push_cast, go_sem, Nat.reduceEqDiff, ↓reduceIte, reduceCtorEq, Nat.reduceAdd, Nat.reduceSub, Nat.reduceLeDiff, Nat.reduceLT, Int.reduceLT, Int.reduceLE, Int.reduceEq, Int.reduceNeg, Nat.reduceMul, Int.reduceAdd, Int.reduceToNat, *]))
    | (with_reducible refine still_split ?_ ?_)
    | omega)
        all_goals first
          | (have h3 := hr2 hx
             refine loop_endN (i + 1, N + 1) _ (by omega) ⟨by dsimp only; omega, by dsimp only; omega, by dsimp only; omega⟩ (by dsimp only; omega) (by dsimp only; simp (maxSteps := 1000000) (disch := omega) only [push_cast, go_sem, Nat.reduceEqDiff, ↓reduceIte, reduceCtorEq, Nat.reduceAdd, Nat.reduceSub, Nat.reduceLeDiff, Nat.reduceLT, Int.reduceLT, Int.reduceLE, Int.reduceEq, Int.reduceNeg, Nat.reduceMul, Int.reduceAdd, Int.reduceToNat, *]) (by dsimp only; rw [eN, eT, h3]; simp (maxSteps := 1000000) (disch := omega) only [push_cast, go_sem, Nat.reduceEqDiff, ↓reduceIte, reduceCtorEq, Nat.reduceAdd, Nat.reduceSub, Nat.reduceLeDiff, Nat.reduceLT, Int.reduceLT, Int.reduceLE, Int.reduceEq, Int.reduceNeg, Nat.reduceMul, Int.reduceAdd, Int.reduceToNat, *] <;> simp [encA, hx]) (Nat.le_refl _))
          | (have h3 := hr1 hx
             refine loop_endN (i + 1, N + 1) _ (by omega) ⟨by dsimp only; omega, by dsimp only; omega, by dsimp only; omega⟩ (by dsimp only; omega) (by dsimp only; simp (maxSteps := 1000000) (disch := omega) only [push_cast, go_sem, Nat.reduceEqDiff, ↓reduceIte, reduceCtorEq, Nat.reduceAdd, Nat.reduceSub, Nat.reduceLeDiff, Nat.reduceLT, Int.reduceLT, Int.reduceLE, Int.reduceEq, Int.reduceNeg, Nat.reduceMul, Int.reduceAdd, Int.reduceToNat, *]) (by dsimp only; rw [eN, eT, h3]; simp (maxSteps := 1000000) (disch := omega) only [push_cast, go_sem, Nat.reduceEqDiff, ↓reduceIte, reduceCtorEq, Nat.reduceAdd, Nat.reduceSub, Nat.reduceLeDiff, Nat.reduceLT, Int.reduceLT, Int.reduceLE, Int.reduceEq, Int.reduceNeg, Nat.reduceMul, Int.reduceAdd, Int.reduceToNat, *] <;> simp <;> rfl) (Nat.le_refl _))
    · simp (maxSteps := 1000000) (disch := omega) only [push_cast, go_sem, Nat.reduceEqDiff, ↓reduceIte, reduceCtorEq, Nat.reduceAdd, Nat.reduceSub, Nat.reduceLeDiff, Nat.reduceLT, Int.reduceLT, Int.reduceLE, Int.reduceEq, Int.reduceNeg, Nat.reduceMul, Int.reduceAdd, Int.reduceToNat, *]
      repeat' (first
    | with_reducible refine And.intro ?_ ?_
    | (with_reducible intro hx; (try simp only [false_dec, true_dec, Int.ofNat_inj, gt_iff_lt, ge_iff_le, decide_eq_true_eq, decide_eq_false_iff_not, Bool.not_eq_true', Bool.not_eq_false', Bool.and_eq_true, Bool.or_eq_false_iff, ne_eq, Classical.not_not] at hx); (first | (exfalso; omega) | (try simp (maxSteps := 1000000) (disch := omega) only [push_cast, go_sem, Nat.reduceEqDiff, ↓reduceIte, reduceCtorEq, Nat.reduceAdd, Nat.reduceSub, Nat.reduceLeDiff, Nat.reduceLT, Int.reduceLT, Int.reduceLE, Int.reduceEq, Int.reduceNeg, Nat.reduceMul, Int.reduceAdd, Int.reduceToNat, *])))
    | (with_reducible refine branch_t ?_; (try simp (maxSteps := 1000000) (disch := omega) only [push_cast, go_sem, Nat.reduceEqDiff, ↓reduceIte, reduceCtorEq, Nat.reduceAdd, Nat.reduceSub, Nat.reduceLeDiff, Nat.reduceLT, Int.reduceLT, Int.reduceLE, Int.reduceEq, Int.reduceNeg, Nat.reduceMul, Int.reduceAdd, Int.reduceToNat, *]))
    | (with_reducible refine branch_f ?_; (try simp (maxSteps := 1000000) (disch := omega) only [push_cast, go_sem, Nat.reduceEqDiff, ↓reduceIte, reduceCtorEq, Nat.reduceAdd, Nat.reduceSub, Nat.reduceLeDiff, Nat.reduceLT, Int.reduceLT, Int.reduceLE, Int.reduceEq, Int.reduceNeg, Nat.reduceMul, Int.reduceAdd, Int.reduceToNat, *]))
    | (with_reducible refine cond_split ?_ ?_)
    | (with_reducible refine guard_split ?_ ?_)
    | ((with_reducible refine drw_open 0 ?_); simp (maxSteps := 1000000) (disch := omega) only [push_cast, go_sem, Nat.reduceEqDiff, ↓reduceIte, reduceCtorEq, Nat.reduceAdd, Nat.reduceSub, Nat.reduceLeDiff, Nat.reduceLT, Int.reduceLT, Int.reduceLE, Int.reduceEq, Int.reduceNeg, Nat.reduceMul, Int.reduceAdd, Int.reduceToNat, *]; (with_reducible refine drw_id ?_))
    | ((with_reducible refine drw_open 1 ?_); simp (maxSteps := 1000000) (disch := omega) only [push_cast, go_sem, Nat.reduceEqDiff, ↓reduceIte, reduceCtorEq, Nat.reduceAdd, Nat.reduceSub, Nat.reduceLeDiff, Nat.reduceLT, Int.reduceLT, Int.reduceLE, Int.reduceEq, Int.reduceNeg, Nat.reduceMul, Int.reduceAdd, Int.reduceToNat, *]; (with_reducible refine drw_id ?_))
    | ((with_reducible refine drw_open 2 ?_); simp (maxSteps := 1000000) (disch := omega) only [push_cast, go_sem, Nat.reduceEqDiff, ↓reduceIte, reduceCtorEq, Nat.reduceAdd, Nat.reduceSub, Nat.reduceLeDiff, Nat.reduceLT, Int.reduceLT, Int.reduceLE, Int.reduceEq, Int.reduceNeg, Nat.reduceMul, Int.reduceAdd, Int.reduceToNat, *]; (with_reducible refine drw_id ?_))
    | ((with_reducible refine drw_plan pl43_0 ?_ ?_ ?_); (focus decide +kernel); (focus rfl); (try simp (maxSteps := 1000000) (disch := omega) only [push_cast, go_sem, Nat.reduceEqDiff, ↓reduceIte, reduceCtorEq, Nat.reduceAdd, Nat.reduceSub, Nat.reduceLeDiff, Nat.reduceLT, Int.reduceLT, Int.reduceLE, Int.reduceEq, Int.reduceNeg, Nat.reduceMul, Int.reduceAdd, Int.reduceToNat, *]); (fail_if_success (with_reducible change False)))
    | ((with_reducible refine drw_intro ?_ ?_); (focus decide +kernel); (try simp (maxSteps := 1000000) (disch := omega) only [push_cast, go_sem, Nat.reduceEqDiff, ↓reduceIte, reduceCtorEq, Nat.reduceAdd, Nat.reduceSub, Nat.reduceLeDiff, Nat.reduceLT, Int.reduceLT, Int.reduceLE, Int.reduceEq, Int.reduceNeg, Nat.reduceMul, Int.reduceAdd, Int.reduceToNat, *]))
    | (with_reducible refine still_split ?_ ?_)
    | omega)
      have : q.take i = q := List.take_of_length_le (by omega)
      rw [this]
  · obtain rfl : q = [] := List.length_eq_zero_iff.1 (by omega)
    refine spec_run (P := Try.prog) (f := 43) (fn := Try.f43) (by kernel_rfl) (by kernel_rfl) rfl (by simp [Try.f43]) ?_; simp (maxSteps := 1000000) (disch := omega) only [push_cast, go_sem, Nat.reduceEqDiff, ↓reduceIte, reduceCtorEq, Nat.reduceAdd, Nat.reduceSub, Nat.reduceLeDiff, Nat.reduceLT, Int.reduceLT, Int.reduceLE, Int.reduceEq, Int.reduceNeg, Nat.reduceMul, Int.reduceAdd, Int.reduceToNat, Try.f43, *]
    repeat' (first
    | with_reducible refine And.intro ?_ ?_
    | (with_reducible intro hx; (try simp only [false_dec, true_dec, Int.ofNat_inj, gt_iff_lt, ge_iff_le, decide_eq_true_eq, decide_eq_false_iff_not, Bool.not_eq_true', Bool.not_eq_false', Bool.and_eq_true, Bool.or_eq_false_iff, ne_eq, Classical.not_not] at hx); (first | (exfalso; omega) | (try simp (maxSteps := 1000000) (disch := omega) only [push_cast, go_sem, Nat.reduceEqDiff, ↓reduceIte, reduceCtorEq, Nat.reduceAdd, Nat.reduceSub, Nat.reduceLeDiff, Nat.reduceLT, Int.reduceLT, Int.reduceLE, Int.reduceEq, Int.reduceNeg, Nat.reduceMul, Int.reduceAdd, Int.reduceToNat, *])))
    | (with_reducible refine branch_t ?_; (try simp (maxSteps := 1000000) (disch := omega) only [push_cast, go_sem, Nat.reduceEqDiff, ↓reduceIte, reduceCtorEq, Nat.reduceAdd, Nat.reduceSub, Nat.reduceLeDiff, Nat.reduceLT, Int.reduceLT, Int.reduceLE, Int.reduceEq, Int.reduceNeg, Nat.reduceMul, Int.reduceAdd, Int.reduceToNat, *]))
    | (with_reducible refine branch_f ?_; (try simp (maxSteps := 1000000) (disch := omega) only [push_cast, go_sem, Nat.reduceEqDiff, ↓reduceIte, reduceCtorEq, Nat.reduceAdd, Nat.reduceSub, Nat.reduceLeDiff, Nat.reduceLT, Int.reduceLT, Int.reduceLE, Int.reduceEq, Int.reduceNeg, Nat.reduceMul, Int.reduceAdd, Int.reduceToNat, *]))
    | (with_reducible refine cond_split ?_ ?_)
    | (with_reducible refine guard_split ?_ ?_)
    | ((with_reducible refine drw_open 0 ?_); simp (maxSteps := 1000000) (disch := omega) only [push_cast, go_sem, Nat.reduceEqDiff, ↓reduceIte, reduceCtorEq, Nat.reduceAdd, Nat.reduceSub, Nat.reduceLeDiff, Nat.reduceLT, Int.reduceLT, Int.reduceLE, Int.reduceEq, Int.reduceNeg, Nat.reduceMul, Int.reduceAdd, Int.reduceToNat, *]; (with_reducible refine drw_id ?_))
    | ((with_reducible refine drw_open 1 ?_); simp (maxSteps := 1000000) (disch := omega) only [push_cast, go_sem, Nat.reduceEqDiff, ↓reduceIte, reduceCtorEq, Nat.reduceAdd, Nat.reduceSub, Nat.reduceLeDiff, Nat.reduceLT, Int.reduceLT, Int.reduceLE, Int.reduceEq, Int.reduceNeg, Nat.reduceMul, Int.reduceAdd, Int.reduceToNat, *]; (with_reducible refine drw_id ?_))
    | ((with_reducible refine drw_open 2 ?_); simp (maxSteps := 1000000) (disch := omega) only [push_cast, go_sem, Nat.reduceEqDiff, ↓reduceIte, reduceCtorEq, Nat.reduceAdd, Nat.reduceSub, Nat.reduceLeDiff, Nat.reduceLT, Int.reduceLT, Int.reduceLE, Int.reduceEq, Int.reduceNeg, Nat.reduceMul, Int.reduceAdd, Int.reduceToNat, *]; (with_reducible refine drw_id ?_))
    | ((with_reducible refine drw_plan pl43_0 ?_ ?_ ?_); (focus decide +kernel); (focus rfl); (try simp (maxSteps := 1000000) (disch := omega) only [push_cast, go_sem, Nat.reduceEqDiff, ↓reduceIte, reduceCtorEq, Nat.reduceAdd, Nat.reduceSub, Nat.reduceLeDiff, Nat.reduceLT, Int.reduceLT, Int.reduceLE, Int.reduceEq, Int.reduceNeg, Nat.reduceMul, Int.reduceAdd, Int.reduceToNat, *]); (fail_if_success (with_reducible change False)))
    | ((with_reducible refine drw_intro ?_ ?_); (focus decide +kernel); (try simp (maxSteps := 1000000) (disch := omega) only [push_cast, go_sem, Nat.reduceEqDiff, ↓reduceIte, reduceCtorEq, Nat.reduceAdd, Nat.reduceSub, Nat.reduceLeDiff, Nat.reduceLT, Int.reduceLT, Int.reduceLE, Int.reduceEq, Int.reduceNeg, Nat.reduceMul, Int.reduceAdd, Int.reduceToNat, *]))
    | (with_reducible refine still_split ?_ ?_)
    | ((with_reducible refine call_by2 [] (rrise_is hr) (by first | (refine ⟨?_, ?_, ?_, ?_⟩ <;> ((try simp (maxSteps := 1000000) (disch := omega) only [push_cast, go_sem, Nat.reduceEqDiff, ↓reduceIte, reduceCtorEq, Nat.reduceAdd, Nat.reduceSub, Nat.reduceLeDiff, Nat.reduceLT, Int.reduceLT, Int.reduceLE, Int.reduceEq, Int.reduceNeg, Nat.reduceMul, Int.reduceAdd, Int.reduceToNat, *]); (try rfl); (try omega); done)) | fail) ?_) <;> (try simp (maxSteps := 1000000) (disch := omega) only [push_cast, go_sem, Nat.reduceEqDiff, ↓reduceIte, reduceCtorEq, Nat.reduceAdd, Nat.reduceSub, Nat.reduceLeDiff, Nat.reduceLT, Int.reduceLT, Int.reduceLE, Int.reduceEq, Int.reduceNeg, Nat.reduceMul, Int.reduceAdd, Int.reduceToNat, *]))
    | omega)
    refine loop_by (σ := Nat) (fun i N => ([(41, .int .i64 0), (40, .int .i64 0), (4, .int .i64 0), (0, .loc 0 0), (1, .lst fl 5 [])],
        [(0, .obj (.agg [.int .i64 nx, .row 1 L.length 0 L.length])), (1, .row 5 (L.map encA) false)]))
      (fun i => True) (fun i => 0) 0 _ trivial (by simp (maxSteps := 1000000) (disch := omega) only [push_cast, go_sem, Nat.reduceEqDiff, ↓reduceIte, reduceCtorEq, Nat.reduceAdd, Nat.reduceSub, Nat.reduceLeDiff, Nat.reduceLT, Int.reduceLT, Int.reduceLE, Int.reduceEq, Int.reduceNeg, Nat.reduceMul, Int.reduceAdd, Int.reduceToNat, *]) (by simp (maxSteps := 1000000) (disch := omega) only [push_cast, go_sem, Nat.reduceEqDiff, ↓reduceIte, reduceCtorEq, Nat.reduceAdd, Nat.reduceSub, Nat.reduceLeDiff, Nat.reduceLT, Int.reduceLT, Int.reduceLE, Int.reduceEq, Int.reduceNeg, Nat.reduceMul, Int.reduceAdd, Int.reduceToNat, *]) (Nat.le_refl _) ?_
    intro i N hN _
    simp (maxSteps := 1000000) (disch := omega) only [push_cast, go_sem, Nat.reduceEqDiff, ↓reduceIte, reduceCtorEq, Nat.reduceAdd, Nat.reduceSub, Nat.reduceLeDiff, Nat.reduceLT, Int.reduceLT, Int.reduceLE, Int.reduceEq, Int.reduceNeg, Nat.reduceMul, Int.reduceAdd, Int.reduceToNat, *]
    repeat' (first
    | with_reducible refine And.intro ?_ ?_
    | (with_reducible intro hx; (try simp only [false_dec, true_dec, Int.ofNat_inj, gt_iff_lt, ge_iff_le, decide_eq_true_eq, decide_eq_false_iff_not, Bool.not_eq_true', Bool.not_eq_false', Bool.and_eq_true, Bool.or_eq_false_iff, ne_eq, Classical.not_not] at hx); (first | (exfalso; omega) | (try simp (maxSteps := 1000000) (disch := omega) only [push_cast, go_sem, Nat.reduceEqDiff, ↓reduceIte, reduceCtorEq, Nat.reduceAdd, Nat.reduceSub, Nat.reduceLeDiff, Nat.reduceLT, Int.reduceLT, Int.reduceLE, Int.reduceEq, Int.reduceNeg, Nat.reduceMul, Int.reduceAdd, Int.reduceToNat, *])))
    | (with_reducible refine branch_t ?_; (try simp (maxSteps := 1000000) (disch := omega) only [push_cast, go_sem, Nat.reduceEqDiff, ↓reduceIte, reduceCtorEq, Nat.reduceAdd, Nat.reduceSub, Nat.reduceLeDiff, Nat.reduceLT, Int.reduceLT, Int.reduceLE, Int.reduceEq, Int.reduceNeg, Nat.reduceMul, Int.reduceAdd, Int.reduceToNat, *]))
    | (with_reducible refine branch_f ?_; (try simp (maxSteps := 1000000) (disch := omega) only [push_cast, go_sem, Nat.reduceEqDiff, ↓reduceIte, reduceCtorEq, Nat.reduceAdd, Nat.reduceSub, Nat.reduceLeDiff, Nat.reduceLT, Int.reduceLT, Int.reduceLE, Int.reduceEq, Int.reduceNeg, Nat.reduceMul, Int.reduceAdd, Int.reduceToNat, *]))
    | (with_reducible refine cond_split ?_ ?_)
    | (with_reducible refine guard_split ?_ ?_)
    | ((with_reducible refine drw_open 0 ?_); simp (maxSteps := 1000000) (disch := omega) only [push_cast, go_sem, Nat.reduceEqDiff, ↓reduceIte, reduceCtorEq, Nat.reduceAdd, Nat.reduceSub, Nat.reduceLeDiff, Nat.reduceLT, Int.reduceLT, Int.reduceLE, Int.reduceEq, Int.reduceNeg, Nat.reduceMul, Int.reduceAdd, Int.reduceToNat, *]; (with_reducible refine drw_id ?_))
    | ((with_reducible refine drw_open 1 ?_); simp (maxSteps := 1000000) (disch := omega) only [push_cast, go_sem, Nat.reduceEqDiff, ↓reduceIte, reduceCtorEq, Nat.reduceAdd, Nat.reduceSub, Nat.reduceLeDiff, Nat.reduceLT, Int.reduceLT, Int.reduceLE, Int.reduceEq, Int.reduceNeg, Nat.reduceMul, Int.reduceAdd, Int.reduceToNat, *]; (with_reducible refine drw_id ?_))
    | ((with_reducible refine drw_open 2 ?_); simp (maxSteps := 1000000) (disch := omega) only [push_cast, go_sem, Nat.reduceEqDiff, ↓reduceIte, reduceCtorEq, Nat.reduceAdd, Nat.reduceSub, Nat.reduceLeDiff, Nat.reduceLT, Int.reduceLT, Int.reduceLE, Int.reduceEq, Int.reduceNeg, Nat.reduceMul, Int.reduceAdd, Int.reduceToNat, *]; (with_reducible refine drw_id ?_))
    | ((with_reducible refine drw_plan pl43_0 ?_ ?_ ?_); (focus decide +kernel); (focus rfl); (try simp (maxSteps := 1000000) (disch := omega) only [push_cast, go_sem, Nat.reduceEqDiff, ↓reduceIte, reduceCtorEq, Nat.reduceAdd, Nat.reduceSub, Nat.reduceLeDiff, Nat.reduceLT, Int.reduceLT, Int.reduceLE, Int.reduceEq, Int.reduceNeg, Nat.reduceMul, Int.reduceAdd, Int.reduceToNat, *]); (fail_if_success (with_reducible change False)))
    | ((with_reducible refine drw_intro ?_ ?_); (focus decide +kernel); (try simp (maxSteps := 1000000) (disch := omega) only [push_cast, go_sem, Nat.reduceEqDiff, ↓reduceIte, reduceCtorEq, Nat.reduceAdd, Nat.reduceSub, Nat.reduceLeDiff, Nat.reduceLT, Int.reduceLT, Int.reduceLE, Int.reduceEq, Int.reduceNeg, Nat.reduceMul, Int.reduceAdd, Int.reduceToNat, *]))
    | (with_reducible refine still_split ?_ ?_)
    | omega)
    rfl
theorem rapply_no {fl : Bool} {nx : Int} {L q : List RecA} (hq : q.length ≤ 100000) (hok : okQ nx q = false) : Spec Try.prog 43 [.optr (.agg [.int .i64 nx, .olst 5 (L.map encA)]) 0, .lst fl 5 (q.map encA)] (.int .i64 8)
    [.optr (.agg [.int .i64 nx, .olst 5 (L.map encA)]) 0, .lst fl 5 (q.map encA)] := by
  have h0 : 0 < q.length := by
    rcases Nat.eq_zero_or_pos q.length with h | h
    · have : q = [] := List.length_eq_zero_iff.1 h
      subst this; simp [okQ, riseF, riseL] at hok
    · exact h
  by_cases hr : riseL q = true
  · have h1 : q[0].off < nx ∨ 1099511627776 < q[q.length - 1].off := by
      rw [okQ, lastq_get h0] at hok
      cases q with
      | nil => simp at h0
      | cons r q =>
        simp only [riseF, hr, Bool.and_true, Bool.and_eq_false_iff, decide_eq_false_iff_not] at hok
        rcases hok with h | h
        · exact .inl (by simpa using h)
        · exact .inr (by omega)
    refine spec_run (P := Try.prog) (f := 43) (fn := Try.f43) (by kernel_rfl) (by kernel_rfl) rfl (by simp [Try.f43]) ?_; simp (maxSteps := 1000000) (disch := omega) only [push_cast, go_sem, Nat.reduceEqDiff, ↓reduceIte, reduceCtorEq, Nat.reduceAdd, Nat.reduceSub, Nat.reduceLeDiff, Nat.reduceLT, Int.reduceLT, Int.reduceLE, Int.reduceEq, Int.reduceNeg, Nat.reduceMul, Int.reduceAdd, Int.reduceToNat, Try.f43, *]
    repeat' (first
    | with_reducible refine And.intro ?_ ?_
    | (with_reducible intro hx; (try simp only [false_dec, true_dec, Int.ofNat_inj, gt_iff_lt, ge_iff_le, decide_eq_true_eq, decide_eq_false_iff_not, Bool.not_eq_true', Bool.not_eq_false', Bool.and_eq_true, Bool.or_eq_false_iff, ne_eq, Classical.not_not] at hx); (first | (exfalso; omega) | (try simp (maxSteps := 1000000) (disch := omega) only [push_cast, go_sem, Nat.reduceEqDiff, ↓reduceIte, reduceCtorEq, Nat.reduceAdd, Nat.reduceSub, Nat.reduceLeDiff, Nat.reduceLT, Int.reduceLT, Int.reduceLE, Int.reduceEq, Int.reduceNeg, Nat.reduceMul, Int.reduceAdd, Int.reduceToNat, *])))
    | (with_reducible refine branch_t ?_; (try simp (maxSteps := 1000000) (disch := omega) only [push_cast, go_sem, Nat.reduceEqDiff, ↓reduceIte, reduceCtorEq, Nat.reduceAdd, Nat.reduceSub, Nat.reduceLeDiff, Nat.reduceLT, Int.reduceLT, Int.reduceLE, Int.reduceEq, Int.reduceNeg, Nat.reduceMul, Int.reduceAdd, Int.reduceToNat, *]))
    | (with_reducible refine branch_f ?_; (try simp (maxSteps := 1000000) (disch := omega) only [push_cast, go_sem, Nat.reduceEqDiff, ↓reduceIte, reduceCtorEq, Nat.reduceAdd, Nat.reduceSub, Nat.reduceLeDiff, Nat.reduceLT, Int.reduceLT, Int.reduceLE, Int.reduceEq, Int.reduceNeg, Nat.reduceMul, Int.reduceAdd, Int.reduceToNat, *]))
    | (with_reducible refine cond_split ?_ ?_)
    | (with_reducible refine guard_split ?_ ?_)
    | ((with_reducible refine drw_open 0 ?_); simp (maxSteps := 1000000) (disch := omega) only [push_cast, go_sem, Nat.reduceEqDiff, ↓reduceIte, reduceCtorEq, Nat.reduceAdd, Nat.reduceSub, Nat.reduceLeDiff, Nat.reduceLT, Int.reduceLT, Int.reduceLE, Int.reduceEq, Int.reduceNeg, Nat.reduceMul, Int.reduceAdd, Int.reduceToNat, *]; (with_reducible refine drw_id ?_))
    | ((with_reducible refine drw_open 1 ?_); simp (maxSteps := 1000000) (disch := omega) only [push_cast, go_sem, Nat.reduceEqDiff, ↓reduceIte, reduceCtorEq, Nat.reduceAdd, Nat.reduceSub, Nat.reduceLeDiff, Nat.reduceLT, Int.reduceLT, Int.reduceLE, Int.reduceEq, Int.reduceNeg, Nat.reduceMul, Int.reduceAdd, Int.reduceToNat, *]; (with_reducible refine drw_id ?_))
    | ((with_reducible refine drw_open 2 ?_); simp (maxSteps := 1000000) (disch := omega) only [push_cast, go_sem, Nat.reduceEqDiff, ↓reduceIte, reduceCtorEq, Nat.reduceAdd, Nat.reduceSub, Nat.reduceLeDiff, Nat.reduceLT, Int.reduceLT, Int.reduceLE, Int.reduceEq, Int.reduceNeg, Nat.reduceMul, Int.reduceAdd, Int.reduceToNat, *]; (with_reducible refine drw_id ?_))
    | ((with_reducible refine drw_plan pl43_0 ?_ ?_ ?_); (focus decide +kernel); (focus rfl); (try simp (maxSteps := 1000000) (disch := omega) only [push_cast, go_sem, Nat.reduceEqDiff, ↓reduceIte, reduceCtorEq, Nat.reduceAdd, Nat.reduceSub, Nat.reduceLeDiff, Nat.reduceLT, Int.reduceLT, Int.reduceLE, Int.reduceEq, Int.reduceNeg, Nat.reduceMul, Int.reduceAdd, Int.reduceToNat, *]); (fail_if_success (with_reducible change False)))
    | ((with_reducible refine drw_intro ?_ ?_); (focus decide +kernel); (try simp (maxSteps := 1000000) (disch := omega) only [push_cast, go_sem, Nat.reduceEqDiff, ↓reduceIte, reduceCtorEq, Nat.reduceAdd, Nat.reduceSub, Nat.reduceLeDiff, Nat.reduceLT, Int.reduceLT, Int.reduceLE, Int.reduceEq, Int.reduceNeg, Nat.reduceMul, Int.reduceAdd, Int.reduceToNat, *]))
    | (with_reducible refine still_split ?_ ?_)
    | ((with_reducible refine call_by2 [] (rrise_is hr) (by first | (refine ⟨?_, ?_, ?_, ?_⟩ <;> ((try simp (maxSteps := 1000000) (disch := omega) only [push_cast, go_sem, Nat.reduceEqDiff, ↓reduceIte, reduceCtorEq, Nat.reduceAdd, Nat.reduceSub, Nat.reduceLeDiff, Nat.reduceLT, Int.reduceLT, Int.reduceLE, Int.reduceEq, Int.reduceNeg, Nat.reduceMul, Int.reduceAdd, Int.reduceToNat, *]); (try rfl); (try omega); done)) | fail) ?_) <;> (try simp (maxSteps := 1000000) (disch := omega) only [push_cast, go_sem, Nat.reduceEqDiff, ↓reduceIte, reduceCtorEq, Nat.reduceAdd, Nat.reduceSub, Nat.reduceLeDiff, Nat.reduceLT, Int.reduceLT, Int.reduceLE, Int.reduceEq, Int.reduceNeg, Nat.reduceMul, Int.reduceAdd, Int.reduceToNat, *]))
    | omega)
  · have hr : riseL q = false := by simpa using hr
    refine spec_run (P := Try.prog) (f := 43) (fn := Try.f43) (by kernel_rfl) (by kernel_rfl) rfl (by simp [Try.f43]) ?_; simp (maxSteps := 1000000) (disch := omega) only [push_cast, go_sem, Nat.reduceEqDiff, ↓reduceIte, reduceCtorEq, Nat.reduceAdd, Nat.reduceSub, Nat.reduceLeDiff, Nat.reduceLT, Int.reduceLT, Int.reduceLE, Int.reduceEq, Int.reduceNeg, Nat.reduceMul, Int.reduceAdd, Int.reduceToNat, Try.f43, *]
    repeat' (first
    | with_reducible refine And.intro ?_ ?_
    | (with_reducible intro hx; (try simp only [false_dec, true_dec, Int.ofNat_inj, gt_iff_lt, ge_iff_le, decide_eq_true_eq, decide_eq_false_iff_not, Bool.not_eq_true', Bool.not_eq_false', Bool.and_eq_true, Bool.or_eq_false_iff, ne_eq, Classical.not_not] at hx); (first | (exfalso; omega) | (try simp (maxSteps := 1000000) (disch := omega) only [push_cast, go_sem, Nat.reduceEqDiff, ↓reduceIte, reduceCtorEq, Nat.reduceAdd, Nat.reduceSub, Nat.reduceLeDiff, Nat.reduceLT, Int.reduceLT, Int.reduceLE, Int.reduceEq, Int.reduceNeg, Nat.reduceMul, Int.reduceAdd, Int.reduceToNat, *])))
    | (with_reducible refine branch_t ?_; (try simp (maxSteps := 1000000) (disch := omega) only [push_cast, go_sem, Nat.reduceEqDiff, ↓reduceIte, reduceCtorEq, Nat.reduceAdd, Nat.reduceSub, Nat.reduceLeDiff, Nat.reduceLT, Int.reduceLT, Int.reduceLE, Int.reduceEq, Int.reduceNeg, Nat.reduceMul, Int.reduceAdd, Int.reduceToNat, *]))
    | (with_reducible refine branch_f ?_; (try simp (maxSteps := 1000000) (disch := omega) only [push_cast, go_sem, Nat.reduceEqDiff, ↓reduceIte, reduceCtorEq, Nat.reduceAdd, Nat.reduceSub, Nat.reduceLeDiff, Nat.reduceLT, Int.reduceLT, Int.reduceLE, Int.reduceEq, Int.reduceNeg, Nat.reduceMul, Int.reduceAdd, Int.reduceToNat, *]))
    | (with_reducible refine cond_split ?_ ?_)
    | (with_reducible refine guard_split ?_ ?_)
    | ((with_reducible refine drw_open 0 ?_); simp (maxSteps := 1000000) (disch := omega) only [push_cast, go_sem, Nat.reduceEqDiff, ↓reduceIte, reduceCtorEq, Nat.reduceAdd, Nat.reduceSub, Nat.reduceLeDiff, Nat.reduceLT, Int.reduceLT, Int.reduceLE, Int.reduceEq, Int.reduceNeg, Nat.reduceMul, Int.reduceAdd, Int.reduceToNat, *]; (with_reducible refine drw_id ?_))
    | ((with_reducible refine drw_open 1 ?_); simp (maxSteps := 1000000) (disch := omega) only [push_cast, go_sem, Nat.reduceEqDiff, ↓reduceIte, reduceCtorEq, Nat.reduceAdd, Nat.reduceSub, Nat.reduceLeDiff, Nat.reduceLT, Int.reduceLT, Int.reduceLE, Int.reduceEq, Int.reduceNeg, Nat.reduceMul, Int.reduceAdd, Int.reduceToNat, *]; (with_reducible refine drw_id ?_))
    | ((with_reducible refine drw_open 2 ?_); simp (maxSteps := 1000000) (disch := omega) only [push_cast, go_sem, Nat.reduceEqDiff, ↓reduceIte, reduceCtorEq, Nat.reduceAdd, Nat.reduceSub, Nat.reduceLeDiff, Nat.reduceLT, Int.reduceLT, Int.reduceLE, Int.reduceEq, Int.reduceNeg, Nat.reduceMul, Int.reduceAdd, Int.reduceToNat, *]; (with_reducible refine drw_id ?_))
    | ((with_reducible refine drw_plan pl43_0 ?_ ?_ ?_); (focus decide +kernel); (focus rfl); (try simp (maxSteps := 1000000) (disch := omega) only [push_cast, go_sem, Nat.reduceEqDiff, ↓reduceIte, reduceCtorEq, Nat.reduceAdd, Nat.reduceSub, Nat.reduceLeDiff, Nat.reduceLT, Int.reduceLT, Int.reduceLE, Int.reduceEq, Int.reduceNeg, Nat.reduceMul, Int.reduceAdd, Int.reduceToNat, *]); (fail_if_success (with_reducible change False)))
    | ((with_reducible refine drw_intro ?_ ?_); (focus decide +kernel); (try simp (maxSteps := 1000000) (disch := omega) only [push_cast, go_sem, Nat.reduceEqDiff, ↓reduceIte, reduceCtorEq, Nat.reduceAdd, Nat.reduceSub, Nat.reduceLeDiff, Nat.reduceLT, Int.reduceLT, Int.reduceLE, Int.reduceEq, Int.reduceNeg, Nat.reduceMul, Int.reduceAdd, Int.reduceToNat, *]))
    | (with_reducible refine still_split ?_ ?_)
    | ((with_reducible refine call_by2 [] (rrise_is hr) (by first | (refine ⟨?_, ?_, ?_, ?_⟩ <;> ((try simp (maxSteps := 1000000) (disch := omega) only [push_cast, go_sem, Nat.reduceEqDiff, ↓reduceIte, reduceCtorEq, Nat.reduceAdd, Nat.reduceSub, Nat.reduceLeDiff, Nat.reduceLT, Int.reduceLT, Int.reduceLE, Int.reduceEq, Int.reduceNeg, Nat.reduceMul, Int.reduceAdd, Int.reduceToNat, *]); (try rfl); (try omega); done)) | fail) ?_) <;> (try simp (maxSteps := 1000000) (disch := omega) only [push_cast, go_sem, Nat.reduceEqDiff, ↓reduceIte, reduceCtorEq, Nat.reduceAdd, Nat.reduceSub, Nat.reduceLeDiff, Nat.reduceLT, Int.reduceLT, Int.reduceLE, Int.reduceEq, Int.reduceNeg, Nat.reduceMul, Int.reduceAdd, Int.reduceToNat, *]))
    | omega)
end Go.Ev

set_option linter.unusedVariables false
set_option linter.unusedSimpArgs false
namespace Go.Ev
set_option maxRecDepth 100000
set_option maxHeartbeats 0
open Go.Proofs
/-! The keys between two, of a list in order and of one in any order. -/
def rgP (a b : List UInt8) (r : RecA) : Bool := !Op.bytesLess r.key a && (decide (b = []) || Op.bytesLess r.key b)
def rgS (l : List RecA) (a b : List UInt8) : List RecA := (l.drop (lb l a)).takeWhile fun r => decide (b = []) || Op.bytesLess r.key b
theorem tw_filter {b : List UInt8} : ∀ {m : List RecA}, SortedK m → (m.takeWhile fun r => decide (b = []) || Op.bytesLess r.key b) = m.filter fun r => decide (b = []) || Op.bytesLess r.key b
  | [], _ => rfl
  | r :: m, hs => by
    have hs' := List.pairwise_cons.1 hs
    rw [List.takeWhile_cons, List.filter_cons]
    by_cases h : (decide (b = []) || Op.bytesLess r.key b) = true
    · rw [if_pos h, if_pos h, tw_filter hs'.2]
    · rw [if_neg h, if_neg h]
      symm
      refine List.filter_eq_nil_iff.2 fun x hx hc => h ?_
      have h1 := hs'.1 x hx
      simp only [Bool.or_eq_true, decide_eq_true_eq] at hc ⊢
      rcases hc with hc | hc
      · exact .inl hc
      · exact .inr (bl_trans h1 hc)
theorem rgS_mem {l : List RecA} {a b : List UInt8} (hs : SortedK l) (r : RecA) : r ∈ rgS l a b ↔ r ∈ l ∧ rgP a b r = true := by
  unfold rgS
  rw [tw_filter (hs.sublist (List.drop_sublist ..)), List.mem_filter]
  have hle := lb_le (l := l) (k := a)
  constructor
  · rintro ⟨h1, h2⟩
    obtain ⟨j, hj, rfl⟩ := List.mem_iff_getElem.1 h1
    simp only [List.length_drop] at hj
    rw [List.getElem_drop] at h2 ⊢
    have := lb_ge hs (j := lb l a + j) (k := a) (by omega) (by omega)
    exact ⟨List.getElem_mem _, by simp only [rgP, this, Bool.not_false, Bool.true_and]; exact h2⟩
  · rintro ⟨h1, h2⟩
    simp only [rgP, Bool.and_eq_true, Bool.not_eq_true'] at h2
    obtain ⟨j, hj, rfl⟩ := List.mem_iff_getElem.1 h1
    have : lb l a ≤ j := by
      rcases Nat.lt_or_ge j (lb l a) with h | h
      · have := lb_lt hj h; rw [h2.1] at this; cases this
      · exact h
    refine ⟨List.mem_iff_getElem.2 ⟨j - lb l a, by simp only [List.length_drop]; omega, ?_⟩, h2.2⟩
    rw [List.getElem_drop]; congr 1; omega
theorem rgS_sorted {l : List RecA} {a b : List UInt8} (hs : SortedK l) : SortedK (rgS l a b) := hs.sublist ((List.takeWhile_sublist _).trans (List.drop_sublist ..))
theorem rangeT_eq {l : List RecA} {a b : List UInt8} {most : Int} : rangeT l a b most = (rgS l a b).take most.toNat := rfl
/-- May it come next? -/
def candR (a b : List UInt8) (o : List RecA) (r : RecA) : Bool := rgP a b r && (match o.getLast? with | some z => Op.bytesLess z.key r.key | none => true)
theorem cand_iff {l : List RecA} {a b : List UInt8} (hs : SortedK l) {n : Nat} (hn : n ≤ (rgS l a b).length) (r : RecA) : (r ∈ l ∧ candR a b ((rgS l a b).take n) r = true) ↔ r ∈ (rgS l a b).drop n := by
  have hS := rgS_sorted (a := a) (b := b) hs
  obtain ⟨S, hSe⟩ : ∃ S, rgS l a b = S := ⟨_, rfl⟩
  have hm := rgS_mem (a := a) (b := b) hs r
  rw [hSe] at hm hS hn ⊢
  unfold candR
  rw [Bool.and_eq_true, ← and_assoc, ← hm]
  rcases Nat.eq_zero_or_pos n with h0 | h0
  · subst h0; simp
  · have hl : (S.take n).getLast? = some S[n - 1] := by
      rw [List.getLast?_eq_getElem?, List.length_take, List.getElem?_take]
      rw [if_pos (by omega), List.getElem?_eq_getElem (by omega)]
      congr 2; omega
    rw [hl]
    constructor
    · rintro ⟨h1, h2⟩
      obtain ⟨j, hj, rfl⟩ := List.mem_iff_getElem.1 h1
      replace h2 : Op.bytesLess (S[n - 1]'(by omega)).key S[j].key = true := h2
      have : n ≤ j := by
        rcases Nat.lt_or_ge j n with h | h
        · exfalso
          by_cases he : j = n - 1
          · subst he; rw [bl_irrefl] at h2; cases h2
          · have := List.pairwise_iff_getElem.1 hS j (n - 1) hj (by omega) (by omega)
            rw [bl_asymm this] at h2; cases h2
        · exact h
      refine List.mem_iff_getElem.2 ⟨j - n, by simp only [List.length_drop]; omega, ?_⟩
      rw [List.getElem_drop]; congr 1; omega
    · intro h1
      obtain ⟨j, hj, rfl⟩ := List.mem_iff_getElem.1 h1
      simp only [List.length_drop] at hj
      rw [List.getElem_drop]
      exact ⟨List.getElem_mem _, List.pairwise_iff_getElem.1 hS (n - 1) (n + j) (by omega) (by omega) (by omega)⟩
/-- The least of those that may come next is the next one. -/
theorem least_is {l L : List RecA} {a b : List UInt8} (hs : SortedK l) (hp : l.Perm L) {n : Nat} (hn : n ≤ (rgS l a b).length) {r : RecA} (hr : r ∈ L) (hc : candR a b ((rgS l a b).take n) r = true)
    (hmin : ∀ x ∈ L, candR a b ((rgS l a b).take n) x = true → Op.bytesLess x.key r.key = false) : ∃ h : n < (rgS l a b).length, r = (rgS l a b)[n] := by
  have h1 := (cand_iff hs hn r).1 ⟨hp.mem_iff.2 hr, hc⟩
  obtain ⟨j, hj, rfl⟩ := List.mem_iff_getElem.1 h1
  simp only [List.length_drop] at hj
  refine ⟨by omega, ?_⟩
  rw [List.getElem_drop]
  rcases Nat.eq_zero_or_pos j with h0 | h0
  · subst h0; rfl
  · exfalso
    have h2 : (rgS l a b)[n]'(by omega) ∈ (rgS l a b).drop n := List.mem_iff_getElem.2 ⟨0, by simp only [List.length_drop]; omega, by rw [List.getElem_drop]; rfl⟩
    have h3 := (cand_iff hs hn _).2 h2
    have h4 := hmin _ (hp.mem_iff.1 h3.1) h3.2
    rw [List.getElem_drop] at h4
    have h5 := List.pairwise_iff_getElem.1 (rgS_sorted (a := a) (b := b) hs) n (n + j) (by omega) (by omega) (by omega)
    rw [h5] at h4; cases h4
theorem none_is {l L : List RecA} {a b : List UInt8} (hs : SortedK l) (hp : l.Perm L) {n : Nat} (hn : n ≤ (rgS l a b).length) (h : ∀ x ∈ L, candR a b ((rgS l a b).take n) x = false) : n = (rgS l a b).length := by
  rcases Nat.lt_or_ge n (rgS l a b).length with hlt | hge
  · exfalso
    have h2 : (rgS l a b)[n] ∈ (rgS l a b).drop n := List.mem_iff_getElem.2 ⟨0, by simp only [List.length_drop]; omega, by rw [List.getElem_drop]; rfl⟩
    have h3 := (cand_iff hs hn _).2 h2
    have h4 := h _ (hp.mem_iff.1 h3.1)
    rw [h3.2] at h4; cases h4
  · omega
/-- The least one so far. -/
def bestI (a b : List UInt8) (o L : List RecA) (i : Nat) (best : Int) : Prop := (best = -1 ∧ ∀ x ∈ L.take i, candR a b o x = false) ∨
  ∃ (j : Nat) (h : j < L.length), best = j ∧ j < i ∧ candR a b o L[j] = true ∧ ∀ x ∈ L.take i, candR a b o x = true → Op.bytesLess x.key L[j].key = false
theorem best_skip {a b : List UInt8} {o L : List RecA} {i : Nat} {best : Int} (h : bestI a b o L i best) (hi : i < L.length) (hc : candR a b o L[i] = false ∨ ∃ (j : Nat) (h : j < L.length), best = j ∧ Op.bytesLess L[i].key L[j].key = false) : bestI a b o L (i + 1) best := by
  have hm : ∀ x ∈ L.take (i + 1), x ∈ L.take i ∨ x = L[i] := fun x hx => by
    rw [take_succ' hi] at hx
    rcases List.mem_append.1 hx with h | h
    · exact .inl h
    · exact .inr (List.mem_singleton.1 h)
  rcases h with ⟨rfl, h⟩ | ⟨j, hj, rfl, hji, h1, h2⟩
  · refine .inl ⟨rfl, fun x hx => ?_⟩
    rcases hm x hx with hx | rfl
    · exact h x hx
    · rcases hc with hc | ⟨j, _, hj, _⟩
      · exact hc
      · omega
  · refine .inr ⟨j, hj, rfl, by omega, h1, fun x hx hcx => ?_⟩
    rcases hm x hx with hx | rfl
    · exact h2 x hx hcx
    · rcases hc with hc | ⟨j', hj', he, hc⟩
      · rw [hc] at hcx; cases hcx
      · obtain rfl : j = j' := by omega
        exact hc
theorem best_take {a b : List UInt8} {o L : List RecA} {i : Nat} {best : Int} (h : bestI a b o L i best) (hi : i < L.length) (hc : candR a b o L[i] = true) (hb : best < 0 ∨ ∃ (j : Nat) (h : j < L.length), best = j ∧ Op.bytesLess L[i].key L[j].key = true) : bestI a b o L (i + 1) i := by
  refine .inr ⟨i, hi, rfl, by omega, hc, fun x hx hcx => ?_⟩
  rw [take_succ' hi] at hx
  rcases List.mem_append.1 hx with hx | hx
  · rcases h with ⟨rfl, h⟩ | ⟨j, hj, rfl, hji, h1, h2⟩
    · rw [h x hx] at hcx; cases hcx
    · rcases hb with hb | ⟨j', hj', he, hb⟩
      · omega
      · obtain rfl : j = j' := by omega
        have h3 := h2 x hx hcx
        cases h4 : Op.bytesLess x.key L[i].key with
        | false => rfl
        | true => rw [bl_trans h4 hb] at h3; cases h3
  · obtain rfl := List.mem_singleton.1 hx; exact bl_irrefl _
end Go.Ev

set_option linter.unusedVariables false
set_option linter.unusedSimpArgs false
namespace Go.Ev
set_option maxRecDepth 100000
set_option maxHeartbeats 0
open Go.Proofs
def lastK (o : List RecA) : List UInt8 := match o.getLast? with | some z => z.key | none => []
theorem lastK_some {o : List RecA} (h : 0 < o.length) : o.getLast? = some (o[o.length - 1]'(by omega)) ∧ lastK o = (o[o.length - 1]'(by omega)).key := by
  have : o.getLast? = some (o[o.length - 1]'(by omega)) := by rw [List.getLast?_eq_getElem?, List.getElem?_eq_getElem (by omega)]
  exact ⟨this, by rw [lastK, this]⟩
theorem candR_iff {a b : List UInt8} {o : List RecA} {r : RecA} : candR a b o r = true ↔ Op.bytesLess r.key a = false ∧ (b = [] ∨ Op.bytesLess r.key b = true) ∧ (o.length = 0 ∨ Op.bytesLess (lastK o) r.key = true) := by
  unfold candR rgP
  rcases Nat.eq_zero_or_pos o.length with h | h
  · have : o = [] := List.length_eq_zero_iff.1 h
    subst this; simp
  · obtain ⟨h1, h2⟩ := lastK_some h
    rw [h1, h2]
    have : o.length ≠ 0 := by omega
    simp [this, and_assoc]
theorem cand_y {a b : List UInt8} {o : List RecA} {r : RecA} (h1 : Op.bytesLess r.key a = false) (h2 : b = [] ∨ Op.bytesLess r.key b = true) (h3 : o.length = 0 ∨ (Op.bytesLess r.key (lastK o) = false ∧ ¬r.key = lastK o)) : candR a b o r = true := by
  refine candR_iff.2 ⟨h1, h2, h3.imp id fun h => ?_⟩
  cases h4 : Op.bytesLess (lastK o) r.key with
  | true => rfl
  | false => exact absurd (bl_eq h.1 h4) h.2
theorem cand_n1 {a b : List UInt8} {o : List RecA} {r : RecA} (h1 : Op.bytesLess r.key a = true) : candR a b o r = false := by
  rw [← Bool.not_eq_true, candR_iff, h1]; simp
theorem cand_n2 {a b : List UInt8} {o : List RecA} {r : RecA} (h1 : ¬b = []) (h2 : Op.bytesLess r.key b = false) : candR a b o r = false := by
  rw [← Bool.not_eq_true, candR_iff, h2]; simp [h1]
theorem cand_n3 {a b : List UInt8} {o : List RecA} {r : RecA} (h1 : 0 < o.length) (h2 : (Op.bytesLess r.key (lastK o) || decide (r.key = lastK o)) = true) : candR a b o r = false := by
  rw [← Bool.not_eq_true, candR_iff]
  rintro ⟨_, _, h | h⟩
  · omega
  · rcases (Bool.or_eq_true ..).mp h2 with h3 | h3
    · rw [bl_asymm h3] at h; cases h
    · rw [of_decide_eq_true h3, bl_irrefl] at h; cases h
theorem rrange_spec (nx : Int) (l L : List RecA) (a b : List UInt8) (most : Int) (hs : SortedK l) (hp : l.Perm L) (hl : L.length ≤ 10000) : Spec Try.prog 45 [.optr (.agg [.int .i64 nx, .olst 5 (L.map encA)]) 0, .str (ofL a), .str (ofL b), .int .i64 most]
   (.olst 5 ((rangeT l a b most).map encA)) [.optr (.agg [.int .i64 nx, .olst 5 (L.map encA)]) 0, .str (ofL a), .str (ofL b), .int .i64 most] := by
  refine spec_run (P := Try.prog) (f := 45) (fn := Try.f45) (by kernel_rfl) (by kernel_rfl) rfl (by simp [Try.f45]) ?_; simp (maxSteps := 1000000) (disch := omega) only [push_cast, go_sem, Nat.reduceEqDiff, ↓reduceIte, reduceCtorEq, Nat.reduceAdd, Nat.reduceSub, Nat.reduceLeDiff, Nat.reduceLT, Int.reduceLT, Int.reduceLE, Int.reduceEq, Int.reduceNeg, Nat.reduceMul, Int.reduceAdd, Int.reduceToNat, Try.f45, *]
  repeat' (first
    | with_reducible refine And.intro ?_ ?_
    | (with_reducible intro hx; (try simp only [false_dec, true_dec, Int.ofNat_inj, gt_iff_lt, ge_iff_le, decide_eq_true_eq, decide_eq_false_iff_not, Bool.not_eq_true', Bool.not_eq_false', Bool.and_eq_true, Bool.or_eq_false_iff, ne_eq, Classical.not_not] at hx); (first | (exfalso; omega) | (try simp (maxSteps := 1000000) (disch := omega) only [push_cast, go_sem, Nat.reduceEqDiff, ↓reduceIte, reduceCtorEq, Nat.reduceAdd, Nat.reduceSub, Nat.reduceLeDiff, Nat.reduceLT, Int.reduceLT, Int.reduceLE, Int.reduceEq, Int.reduceNeg, Nat.reduceMul, Int.reduceAdd, Int.reduceToNat, *])))
    | (with_reducible refine branch_t ?_; (try simp (maxSteps := 1000000) (disch := omega) only [push_cast, go_sem, Nat.reduceEqDiff, ↓reduceIte, reduceCtorEq, Nat.reduceAdd, Nat.reduceSub, Nat.reduceLeDiff, Nat.reduceLT, Int.reduceLT, Int.reduceLE, Int.reduceEq, Int.reduceNeg, Nat.reduceMul, Int.reduceAdd, Int.reduceToNat, *]))
    | (with_reducible refine branch_f ?_; (try simp (maxSteps := 1000000) (disch := omega) only [push_cast, go_sem, Nat.reduceEqDiff, ↓reduceIte, reduceCtorEq, Nat.reduceAdd, Nat.reduceSub, Nat.reduceLeDiff, Nat.reduceLT, Int.reduceLT, Int.reduceLE, Int.reduceEq, Int.reduceNeg, Nat.reduceMul, Int.reduceAdd, Int.reduceToNat, *]))
    | (with_reducible refine cond_split ?_ ?_)
    | (with_reducible refine guard_split ?_ ?_)
    | ((with_reducible refine drw_open 0 ?_); simp (maxSteps := 1000000) (disch := omega) only [push_cast, go_sem, Nat.reduceEqDiff, ↓reduceIte, reduceCtorEq, Nat.reduceAdd, Nat.reduceSub, Nat.reduceLeDiff, Nat.reduceLT, Int.reduceLT, Int.reduceLE, Int.reduceEq, Int.reduceNeg, Nat.reduceMul, Int.reduceAdd, Int.reduceToNat, *]; (with_reducible refine drw_id ?_))
    | ((with_reducible refine drw_open 1 ?_); simp (maxSteps := 1000000) (disch := omega) only [push_cast, go_sem, Nat.reduceEqDiff, ↓reduceIte, reduceCtorEq, Nat.reduceAdd, Nat.reduceSub, Nat.reduceLeDiff, Nat.reduceLT, Int.reduceLT, Int.reduceLE, Int.reduceEq, Int.reduceNeg, Nat.reduceMul, Int.reduceAdd, Int.reduceToNat, *]; (with_reducible refine drw_id ?_))
    | ((with_reducible refine drw_open 2 ?_); simp (maxSteps := 1000000) (disch := omega) only [push_cast, go_sem, Nat.reduceEqDiff, ↓reduceIte, reduceCtorEq, Nat.reduceAdd, Nat.reduceSub, Nat.reduceLeDiff, Nat.reduceLT, Int.reduceLT, Int.reduceLE, Int.reduceEq, Int.reduceNeg, Nat.reduceMul, Int.reduceAdd, Int.reduceToNat, *]; (with_reducible refine drw_id ?_))
    | ((with_reducible refine drw_intro ?_ ?_); (focus decide +kernel); (try simp (maxSteps := 1000000) (disch := omega) only [push_cast, go_sem, Nat.reduceEqDiff, ↓reduceIte, reduceCtorEq, Nat.reduceAdd, Nat.reduceSub, Nat.reduceLeDiff, Nat.reduceLT, Int.reduceLT, Int.reduceLE, Int.reduceEq, Int.reduceNeg, Nat.reduceMul, Int.reduceAdd, Int.reduceToNat, *]))
    | (with_reducible refine still_split ?_ ?_)
    | omega)
  refine loop_open 0 (by simp (maxSteps := 1000000) (disch := omega) only [push_cast, go_sem, Nat.reduceEqDiff, ↓reduceIte, reduceCtorEq, Nat.reduceAdd, Nat.reduceSub, Nat.reduceLeDiff, Nat.reduceLT, Int.reduceLT, Int.reduceLE, Int.reduceEq, Int.reduceNeg, Nat.reduceMul, Int.reduceAdd, Int.reduceToNat, *]; rfl) ?_
  simp (maxSteps := 1000000) (disch := omega) only [push_cast, go_sem, Nat.reduceEqDiff, ↓reduceIte, reduceCtorEq, Nat.reduceAdd, Nat.reduceSub, Nat.reduceLeDiff, Nat.reduceLT, Int.reduceLT, Int.reduceLE, Int.reduceEq, Int.reduceNeg, Nat.reduceMul, Int.reduceAdd, Int.reduceToNat, *]
  obtain ⟨S, hS⟩ : ∃ S, rgS l a b = S := ⟨_, rfl⟩
  refine loop_by (σ := Nat) (fun n N => ([(10, .str (ofL (lastK (S.take n)))), (9, .row 2 (S.take n).length 0 (S.take n).length), (8, .row 1 0 0 0), (0, .loc 0 0), (1, .str (ofL a)), (2, .str (ofL b)), (3, .int .i64 most)],
      [(0, .obj (.agg [.int .i64 nx, .row 3 L.length 0 L.length])), (3, .row 5 (L.map encA) false), (2, .row 5 ((S.take n).map encA) false), (1, .row 5 [] false)]))
    (fun n => n ≤ S.length ∧ n ≤ most.toNat) (fun n => S.length + 1 - n) 0 _ (by simp) (by simp (maxSteps := 1000000) (disch := omega) only [push_cast, go_sem, Nat.reduceEqDiff, ↓reduceIte, reduceCtorEq, Nat.reduceAdd, Nat.reduceSub, Nat.reduceLeDiff, Nat.reduceLT, Int.reduceLT, Int.reduceLE, Int.reduceEq, Int.reduceNeg, Nat.reduceMul, Int.reduceAdd, Int.reduceToNat, *] <;> simp [lastK]) (by simp (maxSteps := 1000000) (disch := omega) only [push_cast, go_sem, Nat.reduceEqDiff, ↓reduceIte, reduceCtorEq, Nat.reduceAdd, Nat.reduceSub, Nat.reduceLeDiff, Nat.reduceLT, Int.reduceLT, Int.reduceLE, Int.reduceEq, Int.reduceNeg, Nat.reduceMul, Int.reduceAdd, Int.reduceToNat, *] <;> simp [lastK]) (Nat.le_refl _) ?_
  rintro n N hN ⟨hn, hnm⟩
  dsimp only
  have hSl : S.length ≤ L.length := by
    rw [← hS, ← hp.length_eq]
    unfold rgS
    exact Nat.le_trans (List.takeWhile_sublist _).length_le (by rw [List.length_drop]; omega)
  obtain ⟨o, ho⟩ : ∃ o, S.take n = o := ⟨_, rfl⟩
  have hol : o.length = n := by rw [← ho, List.length_take]; omega
  rw [ho]
  simp (maxSteps := 1000000) (disch := omega) only [push_cast, go_sem, Nat.reduceEqDiff, ↓reduceIte, reduceCtorEq, Nat.reduceAdd, Nat.reduceSub, Nat.reduceLeDiff, Nat.reduceLT, Int.reduceLT, Int.reduceLE, Int.reduceEq, Int.reduceNeg, Nat.reduceMul, Int.reduceAdd, Int.reduceToNat, *]
  repeat' (first
    | with_reducible refine And.intro ?_ ?_
    | (with_reducible intro hx; (try simp only [false_dec, true_dec, Int.ofNat_inj, gt_iff_lt, ge_iff_le, decide_eq_true_eq, decide_eq_false_iff_not, Bool.not_eq_true', Bool.not_eq_false', Bool.and_eq_true, Bool.or_eq_false_iff, ne_eq, Classical.not_not] at hx); (first | (exfalso; omega) | (try simp (maxSteps := 1000000) (disch := omega) only [push_cast, go_sem, Nat.reduceEqDiff, ↓reduceIte, reduceCtorEq, Nat.reduceAdd, Nat.reduceSub, Nat.reduceLeDiff, Nat.reduceLT, Int.reduceLT, Int.reduceLE, Int.reduceEq, Int.reduceNeg, Nat.reduceMul, Int.reduceAdd, Int.reduceToNat, *])))
    | (with_reducible refine branch_t ?_; (try simp (maxSteps := 1000000) (disch := omega) only [push_cast, go_sem, Nat.reduceEqDiff, ↓reduceIte, reduceCtorEq, Nat.reduceAdd, Nat.reduceSub, Nat.reduceLeDiff, Nat.reduceLT, Int.reduceLT, Int.reduceLE, Int.reduceEq, Int.reduceNeg, Nat.reduceMul, Int.reduceAdd, Int.reduceToNat, *]))
    | (with_reducible refine branch_f ?_; (try simp (maxSteps := 1000000) (disch := omega) only [push_cast, go_sem, Nat.reduceEqDiff, ↓reduceIte, reduceCtorEq, Nat.reduceAdd, Nat.reduceSub, Nat.reduceLeDiff, Nat.reduceLT, Int.reduceLT, Int.reduceLE, Int.reduceEq, Int.reduceNeg, Nat.reduceMul, Int.reduceAdd, Int.reduceToNat, *]))
    | (with_reducible refine cond_split ?_ ?_)
    | (with_reducible refine guard_split ?_ ?_)
    | ((with_reducible refine drw_open 0 ?_); simp (maxSteps := 1000000) (disch := omega) only [push_cast, go_sem, Nat.reduceEqDiff, ↓reduceIte, reduceCtorEq, Nat.reduceAdd, Nat.reduceSub, Nat.reduceLeDiff, Nat.reduceLT, Int.reduceLT, Int.reduceLE, Int.reduceEq, Int.reduceNeg, Nat.reduceMul, Int.reduceAdd, Int.reduceToNat, *]; (with_reducible refine drw_id ?_))
    | ((with_reducible refine drw_open 1 ?_); simp (maxSteps := 1000000) (disch := omega) only [push_cast, go_sem, Nat.reduceEqDiff, ↓reduceIte, reduceCtorEq, Nat.reduceAdd, Nat.reduceSub, Nat.reduceLeDiff, Nat.reduceLT, Int.reduceLT, Int.reduceLE, Int.reduceEq, Int.reduceNeg, Nat.reduceMul, Int.reduceAdd, Int.reduceToNat, *]; (with_reducible refine drw_id ?_))
    | ((with_reducible refine drw_open 2 ?_); simp (maxSteps := 1000000) (disch := omega) only [push_cast, go_sem, Nat.reduceEqDiff, ↓reduceIte, reduceCtorEq, Nat.reduceAdd, Nat.reduceSub, Nat.reduceLeDiff, Nat.reduceLT, Int.reduceLT, Int.reduceLE, Int.reduceEq, Int.reduceNeg, Nat.reduceMul, Int.reduceAdd, Int.reduceToNat, *]; (with_reducible refine drw_id ?_))
    | ((with_reducible refine drw_intro ?_ ?_); (focus decide +kernel); (try simp (maxSteps := 1000000) (disch := omega) only [push_cast, go_sem, Nat.reduceEqDiff, ↓reduceIte, reduceCtorEq, Nat.reduceAdd, Nat.reduceSub, Nat.reduceLeDiff, Nat.reduceLT, Int.reduceLT, Int.reduceLE, Int.reduceEq, Int.reduceNeg, Nat.reduceMul, Int.reduceAdd, Int.reduceToNat, *]))
    | (with_reducible refine still_split ?_ ?_)
    | omega)
  refine loop_by (σ := Nat × Int) (fun x N' => ([(19, .int .i64 x.1), (18, .int .i64 L.length), (17, .row 3 L.length 0 L.length), (11, .int .i64 x.2), (10, .str (ofL (lastK o))), (9, .row 2 n 0 n), (8, .row 1 0 0 0), (0, .loc 0 0), (1, .str (ofL a)), (2, .str (ofL b)), (3, .int .i64 most)],
      [(0, .obj (.agg [.int .i64 nx, .row 3 L.length 0 L.length])), (3, .row 5 (L.map encA) false), (2, .row 5 (o.map encA) false), (1, .row 5 [] false)]))
    (fun x => x.1 ≤ L.length ∧ bestI a b o L x.1 x.2) (fun x => L.length - x.1) (0, -1) _ ⟨by simp, .inl ⟨rfl, by simp⟩⟩ (by simp (maxSteps := 1000000) (disch := omega) only [push_cast, go_sem, Nat.reduceEqDiff, ↓reduceIte, reduceCtorEq, Nat.reduceAdd, Nat.reduceSub, Nat.reduceLeDiff, Nat.reduceLT, Int.reduceLT, Int.reduceLE, Int.reduceEq, Int.reduceNeg, Nat.reduceMul, Int.reduceAdd, Int.reduceToNat, *]) (by simp (maxSteps := 1000000) (disch := omega) only [push_cast, go_sem, Nat.reduceEqDiff, ↓reduceIte, reduceCtorEq, Nat.reduceAdd, Nat.reduceSub, Nat.reduceLeDiff, Nat.reduceLT, Int.reduceLT, Int.reduceLE, Int.reduceEq, Int.reduceNeg, Nat.reduceMul, Int.reduceAdd, Int.reduceToNat, *]) (Nat.le_refl _) ?_
  rintro ⟨i, best⟩ N' hN' ⟨hi, hb⟩
  dsimp only at hi hb
  dsimp only
  by_cases hil : i < L.length
  · have hbb : best = -1 ∨ ∃ j : Nat, best = j ∧ j < L.length := by
      rcases hb with ⟨h, _⟩ | ⟨j, h, h', _⟩
      · exact .inl h
      · exact .inr ⟨j, h', h⟩
    rcases hbb with rfl | ⟨j, rfl, hj⟩
    · simp (maxSteps := 1000000) (disch := omega) only [push_cast, go_sem, Nat.reduceEqDiff, ↓reduceIte, reduceCtorEq, Nat.reduceAdd, Nat.reduceSub, Nat.reduceLeDiff, Nat.reduceLT, Int.reduceLT, Int.reduceLE, Int.reduceEq, Int.reduceNeg, Nat.reduceMul, Int.reduceAdd, Int.reduceToNat, *]
      repeat' (first
    | with_reducible refine And.intro ?_ ?_
    | (with_reducible intro hx; (try simp only [false_dec, true_dec, Int.ofNat_inj, gt_iff_lt, ge_iff_le, decide_eq_true_eq, decide_eq_false_iff_not, Bool.not_eq_true', Bool.not_eq_false', Bool.and_eq_true, Bool.or_eq_false_iff, ne_eq, Classical.not_not] at hx); (first | (exfalso; omega) | (try simp (maxSteps := 1000000) (disch := omega) only [push_cast, go_sem, Nat.reduceEqDiff, ↓reduceIte, reduceCtorEq, Nat.reduceAdd, Nat.reduceSub, Nat.reduceLeDiff, Nat.reduceLT, Int.reduceLT, Int.reduceLE, Int.reduceEq, Int.reduceNeg, Nat.reduceMul, Int.reduceAdd, Int.reduceToNat, *])))
    | (with_reducible refine branch_t ?_; (try simp (maxSteps := 1000000) (disch := omega) only [push_cast, go_sem, Nat.reduceEqDiff, ↓reduceIte, reduceCtorEq, Nat.reduceAdd, Nat.reduceSub, Nat.reduceLeDiff, Nat.reduceLT, Int.reduceLT, Int.reduceLE, Int.reduceEq, Int.reduceNeg, Nat.reduceMul, Int.reduceAdd, Int.reduceToNat, *]))
    | (with_reducible refine branch_f ?_; (try simp (maxSteps := 1000000) (disch := omega) only [push_cast, go_sem, Nat.reduceEqDiff, ↓reduceIte, reduceCtorEq, Nat.reduceAdd, Nat.reduceSub, Nat.reduceLeDiff, Nat.reduceLT, Int.reduceLT, Int.reduceLE, Int.reduceEq, Int.reduceNeg, Nat.reduceMul, Int.reduceAdd, Int.reduceToNat, *]))
    | (with_reducible refine cond_split ?_ ?_)
    | (with_reducible refine guard_split ?_ ?_)
    | ((with_reducible refine drw_open 0 ?_); simp (maxSteps := 1000000) (disch := omega) only [push_cast, go_sem, Nat.reduceEqDiff, ↓reduceIte, reduceCtorEq, Nat.reduceAdd, Nat.reduceSub, Nat.reduceLeDiff, Nat.reduceLT, Int.reduceLT, Int.reduceLE, Int.reduceEq, Int.reduceNeg, Nat.reduceMul, Int.reduceAdd, Int.reduceToNat, *]; (with_reducible refine drw_id ?_))
    | ((with_reducible refine drw_open 1 ?_); simp (maxSteps := 1000000) (disch := omega) only [push_cast, go_sem, Nat.reduceEqDiff, ↓reduceIte, reduceCtorEq, Nat.reduceAdd, Nat.reduceSub, Nat.reduceLeDiff, Nat.reduceLT, Int.reduceLT, Int.reduceLE, Int.reduceEq, Int.reduceNeg, Nat.reduceMul, Int.reduceAdd, Int.reduceToNat, *]; (with_reducible refine drw_id ?_))
    | ((with_reducible refine drw_open 2 ?_); simp (maxSteps := 1000000) (disch := omega) only [push_cast, go_sem, Nat.reduceEqDiff, ↓reduceIte, reduceCtorEq, Nat.reduceAdd, Nat.reduceSub, Nat.reduceLeDiff, Nat.reduceLT, Int.reduceLT, Int.reduceLE, Int.reduceEq, Int.reduceNeg, Nat.reduceMul, Int.reduceAdd, Int.reduceToNat, *]; (with_reducible refine drw_id ?_))
    | ((with_reducible refine drw_intro ?_ ?_); (focus decide +kernel); (try simp (maxSteps := 1000000) (disch := omega) only [push_cast, go_sem, Nat.reduceEqDiff, ↓reduceIte, reduceCtorEq, Nat.reduceAdd, Nat.reduceSub, Nat.reduceLeDiff, Nat.reduceLT, Int.reduceLT, Int.reduceLE, Int.reduceEq, Int.reduceNeg, Nat.reduceMul, Int.reduceAdd, Int.reduceToNat, *]))
    | (with_reducible refine still_split ?_ ?_)
    | omega)
      all_goals (try (have e : b = [] := by assumption
                      subst e))
      all_goals first
        | refine loop_end (i + 1, -1) _ (by omega) ⟨by dsimp only; omega, best_skip hb hil (.inl (by first | exact cand_n1 (by assumption) | exact cand_n2 (by assumption) (by assumption) | exact cand_n3 (by omega) (by assumption) | fail))⟩ (by dsimp only; omega) (by simp (maxSteps := 1000000) (disch := omega) only [push_cast, go_sem, Nat.reduceEqDiff, ↓reduceIte, reduceCtorEq, Nat.reduceAdd, Nat.reduceSub, Nat.reduceLeDiff, Nat.reduceLT, Int.reduceLT, Int.reduceLE, Int.reduceEq, Int.reduceNeg, Nat.reduceMul, Int.reduceAdd, Int.reduceToNat, *]) (by simp (maxSteps := 1000000) (disch := omega) only [push_cast, go_sem, Nat.reduceEqDiff, ↓reduceIte, reduceCtorEq, Nat.reduceAdd, Nat.reduceSub, Nat.reduceLeDiff, Nat.reduceLT, Int.reduceLT, Int.reduceLE, Int.reduceEq, Int.reduceNeg, Nat.reduceMul, Int.reduceAdd, Int.reduceToNat, *]) (Nat.le_refl _)
        | refine loop_end (i + 1, (i : Int)) _ (by omega) ⟨by dsimp only; omega, best_take hb hil (cand_y (by assumption) (by first | exact .inl (by assumption) | exact .inr (by assumption) | fail) (by first | exact .inl (by omega) | exact .inr (by assumption) | fail)) (.inl (by omega))⟩ (by dsimp only; omega) (by simp (maxSteps := 1000000) (disch := omega) only [push_cast, go_sem, Nat.reduceEqDiff, ↓reduceIte, reduceCtorEq, Nat.reduceAdd, Nat.reduceSub, Nat.reduceLeDiff, Nat.reduceLT, Int.reduceLT, Int.reduceLE, Int.reduceEq, Int.reduceNeg, Nat.reduceMul, Int.reduceAdd, Int.reduceToNat, *]) (by simp (maxSteps := 1000000) (disch := omega) only [push_cast, go_sem, Nat.reduceEqDiff, ↓reduceIte, reduceCtorEq, Nat.reduceAdd, Nat.reduceSub, Nat.reduceLeDiff, Nat.reduceLT, Int.reduceLT, Int.reduceLE, Int.reduceEq, Int.reduceNeg, Nat.reduceMul, Int.reduceAdd, Int.reduceToNat, *]) (Nat.le_refl _)
    · simp (maxSteps := 1000000) (disch := omega) only [push_cast, go_sem, Nat.reduceEqDiff, ↓reduceIte, reduceCtorEq, Nat.reduceAdd, Nat.reduceSub, Nat.reduceLeDiff, Nat.reduceLT, Int.reduceLT, Int.reduceLE, Int.reduceEq, Int.reduceNeg, Nat.reduceMul, Int.reduceAdd, Int.reduceToNat, *]
      repeat' (first
    | with_reducible refine And.intro ?_ ?_
    | (with_reducible intro hx; (try simp only [false_dec, true_dec, Int.ofNat_inj, gt_iff_lt, ge_iff_le, decide_eq_true_eq, decide_eq_false_iff_not, Bool.not_eq_true', Bool.not_eq_false', Bool.and_eq_true, Bool.or_eq_false_iff, ne_eq, Classical.not_not] at hx); (first | (exfalso; omega) | (try simp (maxSteps := 1000000) (disch := omega) only [push_cast, go_sem, Nat.reduceEqDiff, ↓reduceIte, reduceCtorEq, Nat.reduceAdd, Nat.reduceSub, Nat.reduceLeDiff, Nat.reduceLT, Int.reduceLT, Int.reduceLE, Int.reduceEq, Int.reduceNeg, Nat.reduceMul, Int.reduceAdd, Int.reduceToNat, *])))
    | (with_reducible refine branch_t ?_; (try simp (maxSteps := 1000000) (disch := omega) only [push_cast, go_sem, Nat.reduceEqDiff, ↓reduceIte, reduceCtorEq, Nat.reduceAdd, Nat.reduceSub, Nat.reduceLeDiff, Nat.reduceLT, Int.reduceLT, Int.reduceLE, Int.reduceEq, Int.reduceNeg, Nat.reduceMul, Int.reduceAdd, Int.reduceToNat, *]))
    | (with_reducible refine branch_f ?_; (try simp (maxSteps := 1000000) (disch := omega) only [push_cast, go_sem, Nat.reduceEqDiff, ↓reduceIte, reduceCtorEq, Nat.reduceAdd, Nat.reduceSub, Nat.reduceLeDiff, Nat.reduceLT, Int.reduceLT, Int.reduceLE, Int.reduceEq, Int.reduceNeg, Nat.reduceMul, Int.reduceAdd, Int.reduceToNat, *]))
    | (with_reducible refine cond_split ?_ ?_)
    | (with_reducible refine guard_split ?_ ?_)
    | ((with_reducible refine drw_open 0 ?_); simp (maxSteps := 1000000) (disch := omega) only [push_cast, go_sem, Nat.reduceEqDiff, ↓reduceIte, reduceCtorEq, Nat.reduceAdd, Nat.reduceSub, Nat.reduceLeDiff, Nat.reduceLT, Int.reduceLT, Int.reduceLE, Int.reduceEq, Int.reduceNeg, Nat.reduceMul, Int.reduceAdd, Int.reduceToNat, *]; (with_reducible refine drw_id ?_))
    | ((with_reducible refine drw_open 1 ?_); simp (maxSteps := 1000000) (disch := omega) only [push_cast, go_sem, Nat.reduceEqDiff, ↓reduceIte, reduceCtorEq, Nat.reduceAdd, Nat.reduceSub, Nat.reduceLeDiff, Nat.reduceLT, Int.reduceLT, Int.reduceLE, Int.reduceEq, Int.reduceNeg, Nat.reduceMul, Int.reduceAdd, Int.reduceToNat, *]; (with_reducible refine drw_id ?_))
    | ((with_reducible refine drw_open 2 ?_); simp (maxSteps := 1000000) (disch := omega) only [push_cast, go_sem, Nat.reduceEqDiff, ↓reduceIte, reduceCtorEq, Nat.reduceAdd, Nat.reduceSub, Nat.reduceLeDiff, Nat.reduceLT, Int.reduceLT, Int.reduceLE, Int.reduceEq, Int.reduceNeg, Nat.reduceMul, Int.reduceAdd, Int.reduceToNat, *]; (with_reducible refine drw_id ?_))
    | ((with_reducible refine drw_intro ?_ ?_); (focus decide +kernel); (try simp (maxSteps := 1000000) (disch := omega) only [push_cast, go_sem, Nat.reduceEqDiff, ↓reduceIte, reduceCtorEq, Nat.reduceAdd, Nat.reduceSub, Nat.reduceLeDiff, Nat.reduceLT, Int.reduceLT, Int.reduceLE, Int.reduceEq, Int.reduceNeg, Nat.reduceMul, Int.reduceAdd, Int.reduceToNat, *]))
    | (with_reducible refine still_split ?_ ?_)
    | omega)
      all_goals (try (have e : b = [] := by assumption
                      subst e))
      all_goals first
        | refine loop_end (i + 1, (j : Int)) _ (by omega) ⟨by dsimp only; omega, best_skip hb hil (.inl (by first | exact cand_n1 (by assumption) | exact cand_n2 (by assumption) (by assumption) | exact cand_n3 (by omega) (by assumption) | fail))⟩ (by dsimp only; omega) (by simp (maxSteps := 1000000) (disch := omega) only [push_cast, go_sem, Nat.reduceEqDiff, ↓reduceIte, reduceCtorEq, Nat.reduceAdd, Nat.reduceSub, Nat.reduceLeDiff, Nat.reduceLT, Int.reduceLT, Int.reduceLE, Int.reduceEq, Int.reduceNeg, Nat.reduceMul, Int.reduceAdd, Int.reduceToNat, *]) (by simp (maxSteps := 1000000) (disch := omega) only [push_cast, go_sem, Nat.reduceEqDiff, ↓reduceIte, reduceCtorEq, Nat.reduceAdd, Nat.reduceSub, Nat.reduceLeDiff, Nat.reduceLT, Int.reduceLT, Int.reduceLE, Int.reduceEq, Int.reduceNeg, Nat.reduceMul, Int.reduceAdd, Int.reduceToNat, *]) (Nat.le_refl _)
        | refine loop_end (i + 1, (i : Int)) _ (by omega) ⟨by dsimp only; omega, best_take hb hil (cand_y (by assumption) (by first | exact .inl (by assumption) | exact .inr (by assumption) | fail) (by first | exact .inl (by omega) | exact .inr (by assumption) | fail)) (.inr ⟨j, hj, rfl, by assumption⟩)⟩ (by dsimp only; omega) (by simp (maxSteps := 1000000) (disch := omega) only [push_cast, go_sem, Nat.reduceEqDiff, ↓reduceIte, reduceCtorEq, Nat.reduceAdd, Nat.reduceSub, Nat.reduceLeDiff, Nat.reduceLT, Int.reduceLT, Int.reduceLE, Int.reduceEq, Int.reduceNeg, Nat.reduceMul, Int.reduceAdd, Int.reduceToNat, *]) (by simp (maxSteps := 1000000) (disch := omega) only [push_cast, go_sem, Nat.reduceEqDiff, ↓reduceIte, reduceCtorEq, Nat.reduceAdd, Nat.reduceSub, Nat.reduceLeDiff, Nat.reduceLT, Int.reduceLT, Int.reduceLE, Int.reduceEq, Int.reduceNeg, Nat.reduceMul, Int.reduceAdd, Int.reduceToNat, *]) (Nat.le_refl _)
        | refine loop_end (i + 1, (j : Int)) _ (by omega) ⟨by dsimp only; omega, best_skip hb hil (.inr ⟨j, hj, rfl, by assumption⟩)⟩ (by dsimp only; omega) (by simp (maxSteps := 1000000) (disch := omega) only [push_cast, go_sem, Nat.reduceEqDiff, ↓reduceIte, reduceCtorEq, Nat.reduceAdd, Nat.reduceSub, Nat.reduceLeDiff, Nat.reduceLT, Int.reduceLT, Int.reduceLE, Int.reduceEq, Int.reduceNeg, Nat.reduceMul, Int.reduceAdd, Int.reduceToNat, *]) (by simp (maxSteps := 1000000) (disch := omega) only [push_cast, go_sem, Nat.reduceEqDiff, ↓reduceIte, reduceCtorEq, Nat.reduceAdd, Nat.reduceSub, Nat.reduceLeDiff, Nat.reduceLT, Int.reduceLT, Int.reduceLE, Int.reduceEq, Int.reduceNeg, Nat.reduceMul, Int.reduceAdd, Int.reduceToNat, *]) (Nat.le_refl _)
  · obtain rfl : i = L.length := by omega
    rcases hb with ⟨rfl, hb⟩ | ⟨j, hj, rfl, _, hc, hmin⟩
    · have hlast : n = S.length := by
        have := none_is (a := a) (b := b) hs hp (n := n) (by rw [hS]; exact hn) (by rw [hS, ho]; exact fun x hx => hb x (by rw [List.take_length]; exact hx))
        rw [hS] at this; exact this
      have hres : rangeT l a b most = o := by rw [rangeT_eq, hS, ← ho, List.take_of_length_le (by omega), List.take_of_length_le (by omega)]
      rw [hres]
      simp (maxSteps := 1000000) (disch := omega) only [push_cast, go_sem, Nat.reduceEqDiff, ↓reduceIte, reduceCtorEq, Nat.reduceAdd, Nat.reduceSub, Nat.reduceLeDiff, Nat.reduceLT, Int.reduceLT, Int.reduceLE, Int.reduceEq, Int.reduceNeg, Nat.reduceMul, Int.reduceAdd, Int.reduceToNat, *]
      repeat' (first
    | with_reducible refine And.intro ?_ ?_
    | (with_reducible intro hx; (try simp only [false_dec, true_dec, Int.ofNat_inj, gt_iff_lt, ge_iff_le, decide_eq_true_eq, decide_eq_false_iff_not, Bool.not_eq_true', Bool.not_eq_false', Bool.and_eq_true, Bool.or_eq_false_iff, ne_eq, Classical.not_not] at hx); (first | (exfalso; omega) | (try simp (maxSteps := 1000000) (disch := omega) only [push_cast, go_sem, Nat.reduceEqDiff, ↓reduceIte, reduceCtorEq, Nat.reduceAdd, Nat.reduceSub, Nat.reduceLeDiff, Nat.reduceLT, Int.reduceLT, Int.reduceLE, Int.reduceEq, Int.reduceNeg, Nat.reduceMul, Int.reduceAdd, Int.reduceToNat, *])))
    | (with_reducible refine branch_t ?_; (try simp (maxSteps := 1000000) (disch := omega) only [push_cast, go_sem, Nat.reduceEqDiff, ↓reduceIte, reduceCtorEq, Nat.reduceAdd, Nat.reduceSub, Nat.reduceLeDiff, Nat.reduceLT, Int.reduceLT, Int.reduceLE, Int.reduceEq, Int.reduceNeg, Nat.reduceMul, Int.reduceAdd, Int.reduceToNat, *]))
    | (with_reducible refine branch_f ?_; (try simp (maxSteps := 1000000) (disch := omega) only [push_cast, go_sem, Nat.reduceEqDiff, ↓reduceIte, reduceCtorEq, Nat.reduceAdd, Nat.reduceSub, Nat.reduceLeDiff, Nat.reduceLT, Int.reduceLT, Int.reduceLE, Int.reduceEq, Int.reduceNeg, Nat.reduceMul, Int.reduceAdd, Int.reduceToNat, *]))
    | (with_reducible refine cond_split ?_ ?_)
    | (with_reducible refine guard_split ?_ ?_)
    | ((with_reducible refine drw_open 0 ?_); simp (maxSteps := 1000000) (disch := omega) only [push_cast, go_sem, Nat.reduceEqDiff, ↓reduceIte, reduceCtorEq, Nat.reduceAdd, Nat.reduceSub, Nat.reduceLeDiff, Nat.reduceLT, Int.reduceLT, Int.reduceLE, Int.reduceEq, Int.reduceNeg, Nat.reduceMul, Int.reduceAdd, Int.reduceToNat, *]; (with_reducible refine drw_id ?_))
    | ((with_reducible refine drw_open 1 ?_); simp (maxSteps := 1000000) (disch := omega) only [push_cast, go_sem, Nat.reduceEqDiff, ↓reduceIte, reduceCtorEq, Nat.reduceAdd, Nat.reduceSub, Nat.reduceLeDiff, Nat.reduceLT, Int.reduceLT, Int.reduceLE, Int.reduceEq, Int.reduceNeg, Nat.reduceMul, Int.reduceAdd, Int.reduceToNat, *]; (with_reducible refine drw_id ?_))
    | ((with_reducible refine drw_open 2 ?_); simp (maxSteps := 1000000) (disch := omega) only [push_cast, go_sem, Nat.reduceEqDiff, ↓reduceIte, reduceCtorEq, Nat.reduceAdd, Nat.reduceSub, Nat.reduceLeDiff, Nat.reduceLT, Int.reduceLT, Int.reduceLE, Int.reduceEq, Int.reduceNeg, Nat.reduceMul, Int.reduceAdd, Int.reduceToNat, *]; (with_reducible refine drw_id ?_))
    | ((with_reducible refine drw_intro ?_ ?_); (focus decide +kernel); (try simp (maxSteps := 1000000) (disch := omega) only [push_cast, go_sem, Nat.reduceEqDiff, ↓reduceIte, reduceCtorEq, Nat.reduceAdd, Nat.reduceSub, Nat.reduceLeDiff, Nat.reduceLT, Int.reduceLT, Int.reduceLE, Int.reduceEq, Int.reduceNeg, Nat.reduceMul, Int.reduceAdd, Int.reduceToNat, *]))
    | (with_reducible refine still_split ?_ ?_)
    | omega)
      rw [List.take_of_length_le (by omega)]
    · have hn1 : n < S.length ∧ S.take (n + 1) = o ++ [L[j]] := by
        obtain ⟨h1, h2⟩ := least_is (a := a) (b := b) hs hp (n := n) (by rw [hS]; exact hn) (List.getElem_mem hj) (by rw [hS, ho]; exact hc) (by rw [hS, ho]; exact fun x hx => hmin x (by rw [List.take_length]; exact hx))
        subst hS; subst ho
        exact ⟨h1, by rw [take_succ' h1, h2]⟩
      have hres : most.toNat ≤ n → rangeT l a b most = o := fun h => by rw [rangeT_eq, hS, ← ho]; congr 1; omega
      have hlk : lastK (o ++ [L[j]]) = L[j].key := by rw [lastK]; simp
      simp (maxSteps := 1000000) (disch := omega) only [push_cast, go_sem, Nat.reduceEqDiff, ↓reduceIte, reduceCtorEq, Nat.reduceAdd, Nat.reduceSub, Nat.reduceLeDiff, Nat.reduceLT, Int.reduceLT, Int.reduceLE, Int.reduceEq, Int.reduceNeg, Nat.reduceMul, Int.reduceAdd, Int.reduceToNat, *]
      repeat' (first
    | with_reducible refine And.intro ?_ ?_
    | (with_reducible intro hx; (try simp only [false_dec, true_dec, Int.ofNat_inj, gt_iff_lt, ge_iff_le, decide_eq_true_eq, decide_eq_false_iff_not, Bool.not_eq_true', Bool.not_eq_false', Bool.and_eq_true, Bool.or_eq_false_iff, ne_eq, Classical.not_not] at hx); (first | (exfalso; omega) | (try simp (maxSteps := 1000000) (disch := omega) only [push_cast, go_sem, Nat.reduceEqDiff, ↓reduceIte, reduceCtorEq, Nat.reduceAdd, Nat.reduceSub, Nat.reduceLeDiff, Nat.reduceLT, Int.reduceLT, Int.reduceLE, Int.reduceEq, Int.reduceNeg, Nat.reduceMul, Int.reduceAdd, Int.reduceToNat, *])))
    | (with_reducible refine branch_t ?_; (try simp (maxSteps := 1000000) (disch := omega) only [push_cast, go_sem, Nat.reduceEqDiff, ↓reduceIte, reduceCtorEq, Nat.reduceAdd, Nat.reduceSub, Nat.reduceLeDiff, Nat.reduceLT, Int.reduceLT, Int.reduceLE, Int.reduceEq, Int.reduceNeg, Nat.reduceMul, Int.reduceAdd, Int.reduceToNat, *]))
    | (with_reducible refine branch_f ?_; (try simp (maxSteps := 1000000) (disch := omega) only [push_cast, go_sem, Nat.reduceEqDiff, ↓reduceIte, reduceCtorEq, Nat.reduceAdd, Nat.reduceSub, Nat.reduceLeDiff, Nat.reduceLT, Int.reduceLT, Int.reduceLE, Int.reduceEq, Int.reduceNeg, Nat.reduceMul, Int.reduceAdd, Int.reduceToNat, *]))
    | (with_reducible refine cond_split ?_ ?_)
    | (with_reducible refine guard_split ?_ ?_)
    | ((with_reducible refine drw_open 0 ?_); simp (maxSteps := 1000000) (disch := omega) only [push_cast, go_sem, Nat.reduceEqDiff, ↓reduceIte, reduceCtorEq, Nat.reduceAdd, Nat.reduceSub, Nat.reduceLeDiff, Nat.reduceLT, Int.reduceLT, Int.reduceLE, Int.reduceEq, Int.reduceNeg, Nat.reduceMul, Int.reduceAdd, Int.reduceToNat, *]; (with_reducible refine drw_id ?_))
    | ((with_reducible refine drw_open 1 ?_); simp (maxSteps := 1000000) (disch := omega) only [push_cast, go_sem, Nat.reduceEqDiff, ↓reduceIte, reduceCtorEq, Nat.reduceAdd, Nat.reduceSub, Nat.reduceLeDiff, Nat.reduceLT, Int.reduceLT, Int.reduceLE, Int.reduceEq, Int.reduceNeg, Nat.reduceMul, Int.reduceAdd, Int.reduceToNat, *]; (with_reducible refine drw_id ?_))
    | ((with_reducible refine drw_open 2 ?_); simp (maxSteps := 1000000) (disch := omega) only [push_cast, go_sem, Nat.reduceEqDiff, ↓reduceIte, reduceCtorEq, Nat.reduceAdd, Nat.reduceSub, Nat.reduceLeDiff, Nat.reduceLT, Int.reduceLT, Int.reduceLE, Int.reduceEq, Int.reduceNeg, Nat.reduceMul, Int.reduceAdd, Int.reduceToNat, *]; (with_reducible refine drw_id ?_))
    | ((with_reducible refine drw_intro ?_ ?_); (focus decide +kernel); (try simp (maxSteps := 1000000) (disch := omega) only [push_cast, go_sem, Nat.reduceEqDiff, ↓reduceIte, reduceCtorEq, Nat.reduceAdd, Nat.reduceSub, Nat.reduceLeDiff, Nat.reduceLT, Int.reduceLT, Int.reduceLE, Int.reduceEq, Int.reduceNeg, Nat.reduceMul, Int.reduceAdd, Int.reduceToNat, *]))
    | (with_reducible refine still_split ?_ ?_)
    | omega)
      · rw [List.take_of_length_le (by omega)]
      · refine loop_end (n + 1) _ (by omega) ⟨by omega, by omega⟩ (by omega) (by rw [hn1.2, hlk]; simp (maxSteps := 1000000) (disch := omega) only [push_cast, go_sem, Nat.reduceEqDiff, ↓reduceIte, reduceCtorEq, Nat.reduceAdd, Nat.reduceSub, Nat.reduceLeDiff, Nat.reduceLT, Int.reduceLT, Int.reduceLE, Int.reduceEq, Int.reduceNeg, Nat.reduceMul, Int.reduceAdd, Int.reduceToNat, *] <;> simp [hol]) (by rw [hn1.2]; simp (maxSteps := 1000000) (disch := omega) only [push_cast, go_sem, Nat.reduceEqDiff, ↓reduceIte, reduceCtorEq, Nat.reduceAdd, Nat.reduceSub, Nat.reduceLeDiff, Nat.reduceLT, Int.reduceLT, Int.reduceLE, Int.reduceEq, Int.reduceNeg, Nat.reduceMul, Int.reduceAdd, Int.reduceToNat, *] <;> simp <;> rfl) (Nat.le_refl _)
end Go.Ev

set_option linter.unusedVariables false
set_option linter.unusedSimpArgs false
namespace Go.Ev
set_option maxRecDepth 100000
set_option maxHeartbeats 0
open Go.Proofs
theorem lb_nil (l : List RecA) : lb l [] = 0 := by
  unfold lb
  cases l with
  | nil => rfl
  | cons r l => simp [Op.bytesLess]
theorem rangeT_all {l : List RecA} : rangeT l [] [] l.length = l := by
  rw [rangeT_eq, rgS, lb_nil, List.drop_zero]
  have : (l.takeWhile fun r => decide (([] : List UInt8) = []) || Op.bytesLess r.key []) = l := by
    induction l with
    | nil => rfl
    | cons r l ih => simp [List.takeWhile_cons] at ih ⊢; exact ih
  rw [this]; simp
theorem rall_spec (nx : Int) {l L : List RecA} (hs : SortedK l) (hp : l.Perm L) (hl : l.length ≤ 10000) : Spec Try.prog 42 [.optr (.agg [.int .i64 nx, .olst 5 (L.map encA)]) 0] (.olst 5 (l.map encA)) [.optr (.agg [.int .i64 nx, .olst 5 (L.map encA)]) 0] := by
  have h1 := rrange_spec nx l L [] [] L.length hs hp (by have := hp.length_eq; omega)
  have e : rangeT l [] [] L.length = l := by rw [← hp.length_eq, rangeT_all]
  rw [e] at h1
  clear e
  refine spec_run (P := Try.prog) (f := 42) (fn := Try.f42) (by kernel_rfl) (by kernel_rfl) rfl (by simp [Try.f42]) ?_; simp (maxSteps := 1000000) (disch := omega) only [push_cast, go_sem, Nat.reduceEqDiff, ↓reduceIte, reduceCtorEq, Nat.reduceAdd, Nat.reduceSub, Nat.reduceLeDiff, Nat.reduceLT, Int.reduceLT, Int.reduceLE, Int.reduceEq, Int.reduceNeg, Nat.reduceMul, Int.reduceAdd, Int.reduceToNat, Try.f42, *]
  repeat' (first
    | with_reducible refine And.intro ?_ ?_
    | (with_reducible intro hx; (try simp only [false_dec, true_dec, Int.ofNat_inj, gt_iff_lt, ge_iff_le, decide_eq_true_eq, decide_eq_false_iff_not, Bool.not_eq_true', Bool.not_eq_false', Bool.and_eq_true, Bool.or_eq_false_iff, ne_eq, Classical.not_not] at hx); (first | (exfalso; omega) | (try simp (maxSteps := 1000000) (disch := omega) only [push_cast, go_sem, Nat.reduceEqDiff, ↓reduceIte, reduceCtorEq, Nat.reduceAdd, Nat.reduceSub, Nat.reduceLeDiff, Nat.reduceLT, Int.reduceLT, Int.reduceLE, Int.reduceEq, Int.reduceNeg, Nat.reduceMul, Int.reduceAdd, Int.reduceToNat, *])))
    | (with_reducible refine branch_t ?_; (try simp (maxSteps := 1000000) (disch := omega) only [push_cast, go_sem, Nat.reduceEqDiff, ↓reduceIte, reduceCtorEq, Nat.reduceAdd, Nat.reduceSub, Nat.reduceLeDiff, Nat.reduceLT, Int.reduceLT, Int.reduceLE, Int.reduceEq, Int.reduceNeg, Nat.reduceMul, Int.reduceAdd, Int.reduceToNat, *]))
    | (with_reducible refine branch_f ?_; (try simp (maxSteps := 1000000) (disch := omega) only [push_cast, go_sem, Nat.reduceEqDiff, ↓reduceIte, reduceCtorEq, Nat.reduceAdd, Nat.reduceSub, Nat.reduceLeDiff, Nat.reduceLT, Int.reduceLT, Int.reduceLE, Int.reduceEq, Int.reduceNeg, Nat.reduceMul, Int.reduceAdd, Int.reduceToNat, *]))
    | (with_reducible refine cond_split ?_ ?_)
    | (with_reducible refine guard_split ?_ ?_)
    | ((with_reducible refine drw_open 0 ?_); simp (maxSteps := 1000000) (disch := omega) only [push_cast, go_sem, Nat.reduceEqDiff, ↓reduceIte, reduceCtorEq, Nat.reduceAdd, Nat.reduceSub, Nat.reduceLeDiff, Nat.reduceLT, Int.reduceLT, Int.reduceLE, Int.reduceEq, Int.reduceNeg, Nat.reduceMul, Int.reduceAdd, Int.reduceToNat, *]; (with_reducible refine drw_id ?_))
    | ((with_reducible refine drw_open 1 ?_); simp (maxSteps := 1000000) (disch := omega) only [push_cast, go_sem, Nat.reduceEqDiff, ↓reduceIte, reduceCtorEq, Nat.reduceAdd, Nat.reduceSub, Nat.reduceLeDiff, Nat.reduceLT, Int.reduceLT, Int.reduceLE, Int.reduceEq, Int.reduceNeg, Nat.reduceMul, Int.reduceAdd, Int.reduceToNat, *]; (with_reducible refine drw_id ?_))
    | ((with_reducible refine drw_open 2 ?_); simp (maxSteps := 1000000) (disch := omega) only [push_cast, go_sem, Nat.reduceEqDiff, ↓reduceIte, reduceCtorEq, Nat.reduceAdd, Nat.reduceSub, Nat.reduceLeDiff, Nat.reduceLT, Int.reduceLT, Int.reduceLE, Int.reduceEq, Int.reduceNeg, Nat.reduceMul, Int.reduceAdd, Int.reduceToNat, *]; (with_reducible refine drw_id ?_))
    | ((with_reducible refine drw_intro ?_ ?_); (focus decide +kernel); (try simp (maxSteps := 1000000) (disch := omega) only [push_cast, go_sem, Nat.reduceEqDiff, ↓reduceIte, reduceCtorEq, Nat.reduceAdd, Nat.reduceSub, Nat.reduceLeDiff, Nat.reduceLT, Int.reduceLT, Int.reduceLE, Int.reduceEq, Int.reduceNeg, Nat.reduceMul, Int.reduceAdd, Int.reduceToNat, *]))
    | (with_reducible refine still_split ?_ ?_)
    | ((with_reducible refine call_by2 [true] (h1) (by first | (refine ⟨?_, ?_, ?_, ?_⟩ <;> ((try simp (maxSteps := 1000000) (disch := omega) only [push_cast, go_sem, Nat.reduceEqDiff, ↓reduceIte, reduceCtorEq, Nat.reduceAdd, Nat.reduceSub, Nat.reduceLeDiff, Nat.reduceLT, Int.reduceLT, Int.reduceLE, Int.reduceEq, Int.reduceNeg, Nat.reduceMul, Int.reduceAdd, Int.reduceToNat, *]); (try rfl); (try omega); done)) | fail) ?_) <;> (try simp (maxSteps := 1000000) (disch := omega) only [push_cast, go_sem, Nat.reduceEqDiff, ↓reduceIte, reduceCtorEq, Nat.reduceAdd, Nat.reduceSub, Nat.reduceLeDiff, Nat.reduceLT, Int.reduceLT, Int.reduceLE, Int.reduceEq, Int.reduceNeg, Nat.reduceMul, Int.reduceAdd, Int.reduceToNat, *]))
    | omega)
theorem rsame_spec (nx ny : Int) {l L m M : List RecA} (hs : SortedK l) (hp : l.Perm L) (hl : l.length ≤ 10000) (hs' : SortedK m) (hp' : m.Perm M) (hl' : m.length ≤ 10000) : Spec Try.prog 26 [.optr (.agg [.int .i64 nx, .olst 5 (L.map encA)]) 0, .optr (.agg [.int .i64 ny, .olst 5 (M.map encA)]) 0] (.bool (decide (l.map kv = m.map kv)))
    [.optr (.agg [.int .i64 nx, .olst 5 (L.map encA)]) 0, .optr (.agg [.int .i64 ny, .olst 5 (M.map encA)]) 0] := by
  refine spec_run (P := Try.prog) (f := 26) (fn := Try.f26) (by kernel_rfl) (by kernel_rfl) rfl (by simp [Try.f26]) ?_; simp (maxSteps := 1000000) (disch := omega) only [push_cast, go_sem, Nat.reduceEqDiff, ↓reduceIte, reduceCtorEq, Nat.reduceAdd, Nat.reduceSub, Nat.reduceLeDiff, Nat.reduceLT, Int.reduceLT, Int.reduceLE, Int.reduceEq, Int.reduceNeg, Nat.reduceMul, Int.reduceAdd, Int.reduceToNat, Try.f26, *]
  repeat' (first
    | with_reducible refine And.intro ?_ ?_
    | (with_reducible intro hx; (try simp only [false_dec, true_dec, Int.ofNat_inj, gt_iff_lt, ge_iff_le, decide_eq_true_eq, decide_eq_false_iff_not, Bool.not_eq_true', Bool.not_eq_false', Bool.and_eq_true, Bool.or_eq_false_iff, ne_eq, Classical.not_not] at hx); (first | (exfalso; omega) | (try simp (maxSteps := 1000000) (disch := omega) only [push_cast, go_sem, Nat.reduceEqDiff, ↓reduceIte, reduceCtorEq, Nat.reduceAdd, Nat.reduceSub, Nat.reduceLeDiff, Nat.reduceLT, Int.reduceLT, Int.reduceLE, Int.reduceEq, Int.reduceNeg, Nat.reduceMul, Int.reduceAdd, Int.reduceToNat, *])))
    | (with_reducible refine branch_t ?_; (try simp (maxSteps := 1000000) (disch := omega) only [push_cast, go_sem, Nat.reduceEqDiff, ↓reduceIte, reduceCtorEq, Nat.reduceAdd, Nat.reduceSub, Nat.reduceLeDiff, Nat.reduceLT, Int.reduceLT, Int.reduceLE, Int.reduceEq, Int.reduceNeg, Nat.reduceMul, Int.reduceAdd, Int.reduceToNat, *]))
    | (with_reducible refine branch_f ?_; (try simp (maxSteps := 1000000) (disch := omega) only [push_cast, go_sem, Nat.reduceEqDiff, ↓reduceIte, reduceCtorEq, Nat.reduceAdd, Nat.reduceSub, Nat.reduceLeDiff, Nat.reduceLT, Int.reduceLT, Int.reduceLE, Int.reduceEq, Int.reduceNeg, Nat.reduceMul, Int.reduceAdd, Int.reduceToNat, *]))
    | (with_reducible refine cond_split ?_ ?_)
    | (with_reducible refine guard_split ?_ ?_)
    | ((with_reducible refine drw_open 0 ?_); simp (maxSteps := 1000000) (disch := omega) only [push_cast, go_sem, Nat.reduceEqDiff, ↓reduceIte, reduceCtorEq, Nat.reduceAdd, Nat.reduceSub, Nat.reduceLeDiff, Nat.reduceLT, Int.reduceLT, Int.reduceLE, Int.reduceEq, Int.reduceNeg, Nat.reduceMul, Int.reduceAdd, Int.reduceToNat, *]; (with_reducible refine drw_id ?_))
    | ((with_reducible refine drw_open 1 ?_); simp (maxSteps := 1000000) (disch := omega) only [push_cast, go_sem, Nat.reduceEqDiff, ↓reduceIte, reduceCtorEq, Nat.reduceAdd, Nat.reduceSub, Nat.reduceLeDiff, Nat.reduceLT, Int.reduceLT, Int.reduceLE, Int.reduceEq, Int.reduceNeg, Nat.reduceMul, Int.reduceAdd, Int.reduceToNat, *]; (with_reducible refine drw_id ?_))
    | ((with_reducible refine drw_open 2 ?_); simp (maxSteps := 1000000) (disch := omega) only [push_cast, go_sem, Nat.reduceEqDiff, ↓reduceIte, reduceCtorEq, Nat.reduceAdd, Nat.reduceSub, Nat.reduceLeDiff, Nat.reduceLT, Int.reduceLT, Int.reduceLE, Int.reduceEq, Int.reduceNeg, Nat.reduceMul, Int.reduceAdd, Int.reduceToNat, *]; (with_reducible refine drw_id ?_))
    | ((with_reducible refine drw_intro ?_ ?_); (focus decide +kernel); (try simp (maxSteps := 1000000) (disch := omega) only [push_cast, go_sem, Nat.reduceEqDiff, ↓reduceIte, reduceCtorEq, Nat.reduceAdd, Nat.reduceSub, Nat.reduceLeDiff, Nat.reduceLT, Int.reduceLT, Int.reduceLE, Int.reduceEq, Int.reduceNeg, Nat.reduceMul, Int.reduceAdd, Int.reduceToNat, *]))
    | (with_reducible refine still_split ?_ ?_)
    | ((with_reducible refine call_by2 [true] (rall_spec nx hs hp hl) (by first | (refine ⟨?_, ?_, ?_, ?_⟩ <;> ((try simp (maxSteps := 1000000) (disch := omega) only [push_cast, go_sem, Nat.reduceEqDiff, ↓reduceIte, reduceCtorEq, Nat.reduceAdd, Nat.reduceSub, Nat.reduceLeDiff, Nat.reduceLT, Int.reduceLT, Int.reduceLE, Int.reduceEq, Int.reduceNeg, Nat.reduceMul, Int.reduceAdd, Int.reduceToNat, *]); (try rfl); (try omega); done)) | fail) ?_) <;> (try simp (maxSteps := 1000000) (disch := omega) only [push_cast, go_sem, Nat.reduceEqDiff, ↓reduceIte, reduceCtorEq, Nat.reduceAdd, Nat.reduceSub, Nat.reduceLeDiff, Nat.reduceLT, Int.reduceLT, Int.reduceLE, Int.reduceEq, Int.reduceNeg, Nat.reduceMul, Int.reduceAdd, Int.reduceToNat, *]))
    | ((with_reducible refine call_by2 [true] (rall_spec ny hs' hp' hl') (by first | (refine ⟨?_, ?_, ?_, ?_⟩ <;> ((try simp (maxSteps := 1000000) (disch := omega) only [push_cast, go_sem, Nat.reduceEqDiff, ↓reduceIte, reduceCtorEq, Nat.reduceAdd, Nat.reduceSub, Nat.reduceLeDiff, Nat.reduceLT, Int.reduceLT, Int.reduceLE, Int.reduceEq, Int.reduceNeg, Nat.reduceMul, Int.reduceAdd, Int.reduceToNat, *]); (try rfl); (try omega); done)) | fail) ?_) <;> (try simp (maxSteps := 1000000) (disch := omega) only [push_cast, go_sem, Nat.reduceEqDiff, ↓reduceIte, reduceCtorEq, Nat.reduceAdd, Nat.reduceSub, Nat.reduceLeDiff, Nat.reduceLT, Int.reduceLT, Int.reduceLE, Int.reduceEq, Int.reduceNeg, Nat.reduceMul, Int.reduceAdd, Int.reduceToNat, *]))
    | omega)
  · have : l.map kv ≠ m.map kv := fun e => hx (by simpa using congrArg List.length e)
    simp [this]
  · refine loop_open 0 (by simp (maxSteps := 1000000) (disch := omega) only [push_cast, go_sem, Nat.reduceEqDiff, ↓reduceIte, reduceCtorEq, Nat.reduceAdd, Nat.reduceSub, Nat.reduceLeDiff, Nat.reduceLT, Int.reduceLT, Int.reduceLE, Int.reduceEq, Int.reduceNeg, Nat.reduceMul, Int.reduceAdd, Int.reduceToNat, *]; rfl) ?_
    simp (maxSteps := 1000000) (disch := omega) only [push_cast, go_sem, Nat.reduceEqDiff, ↓reduceIte, reduceCtorEq, Nat.reduceAdd, Nat.reduceSub, Nat.reduceLeDiff, Nat.reduceLT, Int.reduceLT, Int.reduceLE, Int.reduceEq, Int.reduceNeg, Nat.reduceMul, Int.reduceAdd, Int.reduceToNat, *]
    refine loop_open 1 (by simp (maxSteps := 1000000) (disch := omega) only [push_cast, go_sem, Nat.reduceEqDiff, ↓reduceIte, reduceCtorEq, Nat.reduceAdd, Nat.reduceSub, Nat.reduceLeDiff, Nat.reduceLT, Int.reduceLT, Int.reduceLE, Int.reduceEq, Int.reduceNeg, Nat.reduceMul, Int.reduceAdd, Int.reduceToNat, *]; rfl) ?_
    simp (maxSteps := 1000000) (disch := omega) only [push_cast, go_sem, Nat.reduceEqDiff, ↓reduceIte, reduceCtorEq, Nat.reduceAdd, Nat.reduceSub, Nat.reduceLeDiff, Nat.reduceLT, Int.reduceLT, Int.reduceLE, Int.reduceEq, Int.reduceNeg, Nat.reduceMul, Int.reduceAdd, Int.reduceToNat, *]
    refine loop_by (σ := Nat) (fun i N => ([(19, .int .i64 i), (18, .int .i64 l.length), (6, .row 3 m.length 0 m.length), (5, .row 2 l.length 0 l.length), (4, .bool false), (0, .loc 0 0), (1, .loc 1 0)],
      [(3, .row 5 (m.map encA) false), (2, .row 5 (l.map encA) false), (1, .obj (.agg [.int .i64 ny, .row 5 M.length 0 M.length])), (5, .row 5 (M.map encA) false), (0, .obj (.agg [.int .i64 nx, .row 4 L.length 0 L.length])), (4, .row 5 (L.map encA) false)]))
      (fun i => i ≤ l.length ∧ (l.take i).map kv = (m.take i).map kv) (fun i => l.length - i) 0 _ (by simp) (by simp (maxSteps := 1000000) (disch := omega) only [push_cast, go_sem, Nat.reduceEqDiff, ↓reduceIte, reduceCtorEq, Nat.reduceAdd, Nat.reduceSub, Nat.reduceLeDiff, Nat.reduceLT, Int.reduceLT, Int.reduceLE, Int.reduceEq, Int.reduceNeg, Nat.reduceMul, Int.reduceAdd, Int.reduceToNat, *]) (by simp (maxSteps := 1000000) (disch := omega) only [push_cast, go_sem, Nat.reduceEqDiff, ↓reduceIte, reduceCtorEq, Nat.reduceAdd, Nat.reduceSub, Nat.reduceLeDiff, Nat.reduceLT, Int.reduceLT, Int.reduceLE, Int.reduceEq, Int.reduceNeg, Nat.reduceMul, Int.reduceAdd, Int.reduceToNat, *]) (Nat.le_refl _) ?_
    rintro i N hN ⟨hi, hinv⟩
    by_cases hil : i < l.length
    · have him : i < m.length := by omega
      have hne : ¬(l[i].key = m[i].key ∧ l[i].val = m[i].val) → l.map kv ≠ m.map kv := fun hn e => hn (by
        have h1 := congrArg (fun l => l[i]?) e
        simpa [List.getElem?_eq_getElem hil, List.getElem?_eq_getElem him, kv] using h1)
      have hns : (l[i].key = m[i].key ∧ l[i].val = m[i].val) → (l.take (i + 1)).map kv = (m.take (i + 1)).map kv := fun hn => by
        rw [take_succ' hil, take_succ' him, List.map_append, List.map_append, hinv]
        simp [kv, hn.1, hn.2]
      clear hinv
      simp (maxSteps := 1000000) (disch := omega) only [push_cast, go_sem, Nat.reduceEqDiff, ↓reduceIte, reduceCtorEq, Nat.reduceAdd, Nat.reduceSub, Nat.reduceLeDiff, Nat.reduceLT, Int.reduceLT, Int.reduceLE, Int.reduceEq, Int.reduceNeg, Nat.reduceMul, Int.reduceAdd, Int.reduceToNat, *]
      repeat' (first
    | with_reducible refine And.intro ?_ ?_
    | (with_reducible intro hx; (try simp only [false_dec, true_dec, Int.ofNat_inj, gt_iff_lt, ge_iff_le, decide_eq_true_eq, decide_eq_false_iff_not, Bool.not_eq_true', Bool.not_eq_false', Bool.and_eq_true, Bool.or_eq_false_iff, ne_eq, Classical.not_not] at hx); (first | (exfalso; omega) | (try simp (maxSteps := 1000000) (disch := omega) only [push_cast, go_sem, Nat.reduceEqDiff, ↓reduceIte, reduceCtorEq, Nat.reduceAdd, Nat.reduceSub, Nat.reduceLeDiff, Nat.reduceLT, Int.reduceLT, Int.reduceLE, Int.reduceEq, Int.reduceNeg, Nat.reduceMul, Int.reduceAdd, Int.reduceToNat, *])))
    | (with_reducible refine branch_t ?_; (try simp (maxSteps := 1000000) (disch := omega) only [push_cast, go_sem, Nat.reduceEqDiff, ↓reduceIte, reduceCtorEq, Nat.reduceAdd, Nat.reduceSub, Nat.reduceLeDiff, Nat.reduceLT, Int.reduceLT, Int.reduceLE, Int.reduceEq, Int.reduceNeg, Nat.reduceMul, Int.reduceAdd, Int.reduceToNat, *]))
    | (with_reducible refine branch_f ?_; (try simp (maxSteps := 1000000) (disch := omega) only [push_cast, go_sem, Nat.reduceEqDiff, ↓reduceIte, reduceCtorEq, Nat.reduceAdd, Nat.reduceSub, Nat.reduceLeDiff, Nat.reduceLT, Int.reduceLT, Int.reduceLE, Int.reduceEq, Int.reduceNeg, Nat.reduceMul, Int.reduceAdd, Int.reduceToNat, *]))
    | (with_reducible refine cond_split ?_ ?_)
    | (with_reducible refine guard_split ?_ ?_)
    | ((with_reducible refine drw_open 0 ?_); simp (maxSteps := 1000000) (disch := omega) only [push_cast, go_sem, Nat.reduceEqDiff, ↓reduceIte, reduceCtorEq, Nat.reduceAdd, Nat.reduceSub, Nat.reduceLeDiff, Nat.reduceLT, Int.reduceLT, Int.reduceLE, Int.reduceEq, Int.reduceNeg, Nat.reduceMul, Int.reduceAdd, Int.reduceToNat, *]; (with_reducible refine drw_id ?_))
    | ((with_reducible refine drw_open 1 ?_); simp (maxSteps := 1000000) (disch := omega) only [push_cast, go_sem, Nat.reduceEqDiff, ↓reduceIte, reduceCtorEq, Nat.reduceAdd, Nat.reduceSub, Nat.reduceLeDiff, Nat.reduceLT, Int.reduceLT, Int.reduceLE, Int.reduceEq, Int.reduceNeg, Nat.reduceMul, Int.reduceAdd, Int.reduceToNat, *]; (with_reducible refine drw_id ?_))
    | ((with_reducible refine drw_open 2 ?_); simp (maxSteps := 1000000) (disch := omega) only [push_cast, go_sem, Nat.reduceEqDiff, ↓reduceIte, reduceCtorEq, Nat.reduceAdd, Nat.reduceSub, Nat.reduceLeDiff, Nat.reduceLT, Int.reduceLT, Int.reduceLE, Int.reduceEq, Int.reduceNeg, Nat.reduceMul, Int.reduceAdd, Int.reduceToNat, *]; (with_reducible refine drw_id ?_))
    | ((with_reducible refine drw_intro ?_ ?_); (focus decide +kernel); (try simp (maxSteps := 1000000) (disch := omega) only [push_cast, go_sem, Nat.reduceEqDiff, ↓reduceIte, reduceCtorEq, Nat.reduceAdd, Nat.reduceSub, Nat.reduceLeDiff, Nat.reduceLT, Int.reduceLT, Int.reduceLE, Int.reduceEq, Int.reduceNeg, Nat.reduceMul, Int.reduceAdd, Int.reduceToNat, *]))
    | (with_reducible refine still_split ?_ ?_)
    | omega)
      · have := hne fun h => by simp_all
        simp [this]
      · refine loop_end (i + 1) _ (by omega) ⟨by omega, hns ⟨by assumption, by assumption⟩⟩ (by omega) (by simp (maxSteps := 1000000) (disch := omega) only [push_cast, go_sem, Nat.reduceEqDiff, ↓reduceIte, reduceCtorEq, Nat.reduceAdd, Nat.reduceSub, Nat.reduceLeDiff, Nat.reduceLT, Int.reduceLT, Int.reduceLE, Int.reduceEq, Int.reduceNeg, Nat.reduceMul, Int.reduceAdd, Int.reduceToNat, *]) (by simp (maxSteps := 1000000) (disch := omega) only [push_cast, go_sem, Nat.reduceEqDiff, ↓reduceIte, reduceCtorEq, Nat.reduceAdd, Nat.reduceSub, Nat.reduceLeDiff, Nat.reduceLT, Int.reduceLT, Int.reduceLE, Int.reduceEq, Int.reduceNeg, Nat.reduceMul, Int.reduceAdd, Int.reduceToNat, *]) (Nat.le_refl _)
      · have := hne fun h => by simp_all
        simp [this]
    · have : l.map kv = m.map kv := by
        rw [List.take_of_length_le (by omega), List.take_of_length_le (by omega)] at hinv; exact hinv
      clear hinv
      simp (maxSteps := 1000000) (disch := omega) only [push_cast, go_sem, Nat.reduceEqDiff, ↓reduceIte, reduceCtorEq, Nat.reduceAdd, Nat.reduceSub, Nat.reduceLeDiff, Nat.reduceLT, Int.reduceLT, Int.reduceLE, Int.reduceEq, Int.reduceNeg, Nat.reduceMul, Int.reduceAdd, Int.reduceToNat, *]
      repeat' (first
    | with_reducible refine And.intro ?_ ?_
    | (with_reducible intro hx; (try simp only [false_dec, true_dec, Int.ofNat_inj, gt_iff_lt, ge_iff_le, decide_eq_true_eq, decide_eq_false_iff_not, Bool.not_eq_true', Bool.not_eq_false', Bool.and_eq_true, Bool.or_eq_false_iff, ne_eq, Classical.not_not] at hx); (first | (exfalso; omega) | (try simp (maxSteps := 1000000) (disch := omega) only [push_cast, go_sem, Nat.reduceEqDiff, ↓reduceIte, reduceCtorEq, Nat.reduceAdd, Nat.reduceSub, Nat.reduceLeDiff, Nat.reduceLT, Int.reduceLT, Int.reduceLE, Int.reduceEq, Int.reduceNeg, Nat.reduceMul, Int.reduceAdd, Int.reduceToNat, *])))
    | (with_reducible refine branch_t ?_; (try simp (maxSteps := 1000000) (disch := omega) only [push_cast, go_sem, Nat.reduceEqDiff, ↓reduceIte, reduceCtorEq, Nat.reduceAdd, Nat.reduceSub, Nat.reduceLeDiff, Nat.reduceLT, Int.reduceLT, Int.reduceLE, Int.reduceEq, Int.reduceNeg, Nat.reduceMul, Int.reduceAdd, Int.reduceToNat, *]))
    | (with_reducible refine branch_f ?_; (try simp (maxSteps := 1000000) (disch := omega) only [push_cast, go_sem, Nat.reduceEqDiff, ↓reduceIte, reduceCtorEq, Nat.reduceAdd, Nat.reduceSub, Nat.reduceLeDiff, Nat.reduceLT, Int.reduceLT, Int.reduceLE, Int.reduceEq, Int.reduceNeg, Nat.reduceMul, Int.reduceAdd, Int.reduceToNat, *]))
    | (with_reducible refine cond_split ?_ ?_)
    | (with_reducible refine guard_split ?_ ?_)
    | ((with_reducible refine drw_open 0 ?_); simp (maxSteps := 1000000) (disch := omega) only [push_cast, go_sem, Nat.reduceEqDiff, ↓reduceIte, reduceCtorEq, Nat.reduceAdd, Nat.reduceSub, Nat.reduceLeDiff, Nat.reduceLT, Int.reduceLT, Int.reduceLE, Int.reduceEq, Int.reduceNeg, Nat.reduceMul, Int.reduceAdd, Int.reduceToNat, *]; (with_reducible refine drw_id ?_))
    | ((with_reducible refine drw_open 1 ?_); simp (maxSteps := 1000000) (disch := omega) only [push_cast, go_sem, Nat.reduceEqDiff, ↓reduceIte, reduceCtorEq, Nat.reduceAdd, Nat.reduceSub, Nat.reduceLeDiff, Nat.reduceLT, Int.reduceLT, Int.reduceLE, Int.reduceEq, Int.reduceNeg, Nat.reduceMul, Int.reduceAdd, Int.reduceToNat, *]; (with_reducible refine drw_id ?_))
    | ((with_reducible refine drw_open 2 ?_); simp (maxSteps := 1000000) (disch := omega) only [push_cast, go_sem, Nat.reduceEqDiff, ↓reduceIte, reduceCtorEq, Nat.reduceAdd, Nat.reduceSub, Nat.reduceLeDiff, Nat.reduceLT, Int.reduceLT, Int.reduceLE, Int.reduceEq, Int.reduceNeg, Nat.reduceMul, Int.reduceAdd, Int.reduceToNat, *]; (with_reducible refine drw_id ?_))
    | ((with_reducible refine drw_intro ?_ ?_); (focus decide +kernel); (try simp (maxSteps := 1000000) (disch := omega) only [push_cast, go_sem, Nat.reduceEqDiff, ↓reduceIte, reduceCtorEq, Nat.reduceAdd, Nat.reduceSub, Nat.reduceLeDiff, Nat.reduceLT, Int.reduceLT, Int.reduceLE, Int.reduceEq, Int.reduceNeg, Nat.reduceMul, Int.reduceAdd, Int.reduceToNat, *]))
    | (with_reducible refine still_split ?_ ?_)
    | omega)
theorem rel_spec (nx : Int) {l L : List RecA} (hs : SortedK l) (hp : l.Perm L) (hl : l.length ≤ 10000) : Spec Try.prog 22 [.optr (.agg [.int .i64 nx, .olst 5 (l.map encA)]) 0, .optr (.agg [.int .i64 nx, .olst 5 (L.map encA)]) 0] (.bool true) [.optr (.agg [.int .i64 nx, .olst 5 (l.map encA)]) 0, .optr (.agg [.int .i64 nx, .olst 5 (L.map encA)]) 0] := by
  refine spec_run (P := Try.prog) (f := 22) (fn := Try.f22) (by kernel_rfl) (by kernel_rfl) rfl (by simp [Try.f22]) ?_; simp (maxSteps := 1000000) (disch := omega) only [push_cast, go_sem, Nat.reduceEqDiff, ↓reduceIte, reduceCtorEq, Nat.reduceAdd, Nat.reduceSub, Nat.reduceLeDiff, Nat.reduceLT, Int.reduceLT, Int.reduceLE, Int.reduceEq, Int.reduceNeg, Nat.reduceMul, Int.reduceAdd, Int.reduceToNat, Try.f22, *]
  repeat' (first
    | with_reducible refine And.intro ?_ ?_
    | (with_reducible intro hx; (try simp only [false_dec, true_dec, Int.ofNat_inj, gt_iff_lt, ge_iff_le, decide_eq_true_eq, decide_eq_false_iff_not, Bool.not_eq_true', Bool.not_eq_false', Bool.and_eq_true, Bool.or_eq_false_iff, ne_eq, Classical.not_not] at hx); (first | (exfalso; omega) | (try simp (maxSteps := 1000000) (disch := omega) only [push_cast, go_sem, Nat.reduceEqDiff, ↓reduceIte, reduceCtorEq, Nat.reduceAdd, Nat.reduceSub, Nat.reduceLeDiff, Nat.reduceLT, Int.reduceLT, Int.reduceLE, Int.reduceEq, Int.reduceNeg, Nat.reduceMul, Int.reduceAdd, Int.reduceToNat, *])))
    | (with_reducible refine branch_t ?_; (try simp (maxSteps := 1000000) (disch := omega) only [push_cast, go_sem, Nat.reduceEqDiff, ↓reduceIte, reduceCtorEq, Nat.reduceAdd, Nat.reduceSub, Nat.reduceLeDiff, Nat.reduceLT, Int.reduceLT, Int.reduceLE, Int.reduceEq, Int.reduceNeg, Nat.reduceMul, Int.reduceAdd, Int.reduceToNat, *]))
    | (with_reducible refine branch_f ?_; (try simp (maxSteps := 1000000) (disch := omega) only [push_cast, go_sem, Nat.reduceEqDiff, ↓reduceIte, reduceCtorEq, Nat.reduceAdd, Nat.reduceSub, Nat.reduceLeDiff, Nat.reduceLT, Int.reduceLT, Int.reduceLE, Int.reduceEq, Int.reduceNeg, Nat.reduceMul, Int.reduceAdd, Int.reduceToNat, *]))
    | (with_reducible refine cond_split ?_ ?_)
    | (with_reducible refine guard_split ?_ ?_)
    | ((with_reducible refine drw_open 0 ?_); simp (maxSteps := 1000000) (disch := omega) only [push_cast, go_sem, Nat.reduceEqDiff, ↓reduceIte, reduceCtorEq, Nat.reduceAdd, Nat.reduceSub, Nat.reduceLeDiff, Nat.reduceLT, Int.reduceLT, Int.reduceLE, Int.reduceEq, Int.reduceNeg, Nat.reduceMul, Int.reduceAdd, Int.reduceToNat, *]; (with_reducible refine drw_id ?_))
    | ((with_reducible refine drw_open 1 ?_); simp (maxSteps := 1000000) (disch := omega) only [push_cast, go_sem, Nat.reduceEqDiff, ↓reduceIte, reduceCtorEq, Nat.reduceAdd, Nat.reduceSub, Nat.reduceLeDiff, Nat.reduceLT, Int.reduceLT, Int.reduceLE, Int.reduceEq, Int.reduceNeg, Nat.reduceMul, Int.reduceAdd, Int.reduceToNat, *]; (with_reducible refine drw_id ?_))
    | ((with_reducible refine drw_open 2 ?_); simp (maxSteps := 1000000) (disch := omega) only [push_cast, go_sem, Nat.reduceEqDiff, ↓reduceIte, reduceCtorEq, Nat.reduceAdd, Nat.reduceSub, Nat.reduceLeDiff, Nat.reduceLT, Int.reduceLT, Int.reduceLE, Int.reduceEq, Int.reduceNeg, Nat.reduceMul, Int.reduceAdd, Int.reduceToNat, *]; (with_reducible refine drw_id ?_))
    | ((with_reducible refine drw_plan pl22_0 ?_ ?_ ?_); (focus decide +kernel); (focus rfl); (try simp (maxSteps := 1000000) (disch := omega) only [push_cast, go_sem, Nat.reduceEqDiff, ↓reduceIte, reduceCtorEq, Nat.reduceAdd, Nat.reduceSub, Nat.reduceLeDiff, Nat.reduceLT, Int.reduceLT, Int.reduceLE, Int.reduceEq, Int.reduceNeg, Nat.reduceMul, Int.reduceAdd, Int.reduceToNat, *]); (fail_if_success (with_reducible change False)))
    | ((with_reducible refine drw_intro ?_ ?_); (focus decide +kernel); (try simp (maxSteps := 1000000) (disch := omega) only [push_cast, go_sem, Nat.reduceEqDiff, ↓reduceIte, reduceCtorEq, Nat.reduceAdd, Nat.reduceSub, Nat.reduceLeDiff, Nat.reduceLT, Int.reduceLT, Int.reduceLE, Int.reduceEq, Int.reduceNeg, Nat.reduceMul, Int.reduceAdd, Int.reduceToNat, *]))
    | (with_reducible refine still_split ?_ ?_)
    | ((with_reducible refine call_by2 [true] (len_spec nx l) (by first | (refine ⟨?_, ?_, ?_, ?_⟩ <;> ((try simp (maxSteps := 1000000) (disch := omega) only [push_cast, go_sem, Nat.reduceEqDiff, ↓reduceIte, reduceCtorEq, Nat.reduceAdd, Nat.reduceSub, Nat.reduceLeDiff, Nat.reduceLT, Int.reduceLT, Int.reduceLE, Int.reduceEq, Int.reduceNeg, Nat.reduceMul, Int.reduceAdd, Int.reduceToNat, *]); (try rfl); (try omega); done)) | fail) ?_) <;> (try simp (maxSteps := 1000000) (disch := omega) only [push_cast, go_sem, Nat.reduceEqDiff, ↓reduceIte, reduceCtorEq, Nat.reduceAdd, Nat.reduceSub, Nat.reduceLeDiff, Nat.reduceLT, Int.reduceLT, Int.reduceLE, Int.reduceEq, Int.reduceNeg, Nat.reduceMul, Int.reduceAdd, Int.reduceToNat, *]))
    | ((with_reducible refine call_by2 [true] (tnext_spec nx l) (by first | (refine ⟨?_, ?_, ?_, ?_⟩ <;> ((try simp (maxSteps := 1000000) (disch := omega) only [push_cast, go_sem, Nat.reduceEqDiff, ↓reduceIte, reduceCtorEq, Nat.reduceAdd, Nat.reduceSub, Nat.reduceLeDiff, Nat.reduceLT, Int.reduceLT, Int.reduceLE, Int.reduceEq, Int.reduceNeg, Nat.reduceMul, Int.reduceAdd, Int.reduceToNat, *]); (try rfl); (try omega); done)) | fail) ?_) <;> (try simp (maxSteps := 1000000) (disch := omega) only [push_cast, go_sem, Nat.reduceEqDiff, ↓reduceIte, reduceCtorEq, Nat.reduceAdd, Nat.reduceSub, Nat.reduceLeDiff, Nat.reduceLT, Int.reduceLT, Int.reduceLE, Int.reduceEq, Int.reduceNeg, Nat.reduceMul, Int.reduceAdd, Int.reduceToNat, *]))
    | ((with_reducible refine call_by2 [true] (all_spec nx l (by omega)) (by first | (refine ⟨?_, ?_, ?_, ?_⟩ <;> ((try simp (maxSteps := 1000000) (disch := omega) only [push_cast, go_sem, Nat.reduceEqDiff, ↓reduceIte, reduceCtorEq, Nat.reduceAdd, Nat.reduceSub, Nat.reduceLeDiff, Nat.reduceLT, Int.reduceLT, Int.reduceLE, Int.reduceEq, Int.reduceNeg, Nat.reduceMul, Int.reduceAdd, Int.reduceToNat, *]); (try rfl); (try omega); done)) | fail) ?_) <;> (try simp (maxSteps := 1000000) (disch := omega) only [push_cast, go_sem, Nat.reduceEqDiff, ↓reduceIte, reduceCtorEq, Nat.reduceAdd, Nat.reduceSub, Nat.reduceLeDiff, Nat.reduceLT, Int.reduceLT, Int.reduceLE, Int.reduceEq, Int.reduceNeg, Nat.reduceMul, Int.reduceAdd, Int.reduceToNat, *]))
    | ((with_reducible refine call_by2 [true] (rall_spec nx hs hp hl) (by first | (refine ⟨?_, ?_, ?_, ?_⟩ <;> ((try simp (maxSteps := 1000000) (disch := omega) only [push_cast, go_sem, Nat.reduceEqDiff, ↓reduceIte, reduceCtorEq, Nat.reduceAdd, Nat.reduceSub, Nat.reduceLeDiff, Nat.reduceLT, Int.reduceLT, Int.reduceLE, Int.reduceEq, Int.reduceNeg, Nat.reduceMul, Int.reduceAdd, Int.reduceToNat, *]); (try rfl); (try omega); done)) | fail) ?_) <;> (try simp (maxSteps := 1000000) (disch := omega) only [push_cast, go_sem, Nat.reduceEqDiff, ↓reduceIte, reduceCtorEq, Nat.reduceAdd, Nat.reduceSub, Nat.reduceLeDiff, Nat.reduceLT, Int.reduceLT, Int.reduceLE, Int.reduceEq, Int.reduceNeg, Nat.reduceMul, Int.reduceAdd, Int.reduceToNat, *]))
    | ((with_reducible refine call_by2 [] (alike_spec _ _ _ _) (by first | (refine ⟨?_, ?_, ?_, ?_⟩ <;> ((try simp (maxSteps := 1000000) (disch := omega) only [push_cast, go_sem, Nat.reduceEqDiff, ↓reduceIte, reduceCtorEq, Nat.reduceAdd, Nat.reduceSub, Nat.reduceLeDiff, Nat.reduceLT, Int.reduceLT, Int.reduceLE, Int.reduceEq, Int.reduceNeg, Nat.reduceMul, Int.reduceAdd, Int.reduceToNat, *]); (try rfl); (try omega); done)) | fail) ?_) <;> (try simp (maxSteps := 1000000) (disch := omega) only [push_cast, go_sem, Nat.reduceEqDiff, ↓reduceIte, reduceCtorEq, Nat.reduceAdd, Nat.reduceSub, Nat.reduceLeDiff, Nat.reduceLT, Int.reduceLT, Int.reduceLE, Int.reduceEq, Int.reduceNeg, Nat.reduceMul, Int.reduceAdd, Int.reduceToNat, *]))
    | omega)
  exact absurd hp.length_eq hx
end Go.Ev

set_option linter.unusedVariables false
set_option linter.unusedSimpArgs false
namespace Go.Ev
/-! The table and the reference's: the same records. -/
theorem sortedK_nodup {l : List RecA} (hs : SortedK l) : l.Nodup := hs.imp fun {a b} h e => by rw [e, bl_irrefl] at h; cases h
theorem fnd_iff {l : List RecA} (hs : SortedK l) {k : List UInt8} {r : RecA} : fnd l k = some r ↔ r ∈ l ∧ r.key = k :=
  ⟨fnd_some, fun ⟨h, e⟩ => e ▸ fnd_mem hs h⟩
theorem perm_set {l L : List RecA} (hs : SortedK l) (hp : l.Perm L) (r : RecA) : (tset l r).Perm (rset L r) := by
  have hL := hp.nodup (sortedK_nodup hs)
  have h2 : (rset L r).Nodup := by
    unfold rset
    refine List.nodup_append.2 ⟨hL.sublist (List.filter_sublist), ?_, ?_⟩
    · split <;> simp
    · intro a ha b hb e
      subst e
      have h1 := (List.mem_filter.1 ha).2
      split at hb
      · cases hb
      · rw [List.mem_singleton.1 hb] at h1; simp at h1
  refine (List.perm_ext_iff_of_nodup (sortedK_nodup (tset_sorted hs)) h2).2 fun a => ?_
  have h3 : a ∈ tset l r ↔ fnd (tset l r) a.key = some a := ⟨fun h => fnd_mem (tset_sorted hs) h, fun h => (fnd_some h).1⟩
  have h4 : a ∈ L ↔ fnd l a.key = some a := by rw [← hp.mem_iff]; exact ⟨fun h => fnd_mem hs h, fun h => (fnd_some h).1⟩
  rw [h3, fnd_tset hs, rset, List.mem_append, List.mem_filter, h4]
  by_cases hk : r.key = a.key
  · rw [if_pos hk]
    by_cases hg : r.gone = true
    · simp [hg, hk]
    · simp only [hg]
      simp [hk, eq_comm]
  · rw [if_neg hk]
    have : ¬ a = r := fun e => hk (by rw [e])
    have hk' : ¬ a.key = r.key := fun e => hk e.symm
    by_cases hg : r.gone = true <;> simp [hg, hk', this]
theorem perm_apply : ∀ {q l L : List RecA}, SortedK l → l.Perm L → (applyL l q).Perm (rapplyL L q)
  | [], _, _, _, hp => hp
  | r :: q, l, L, hs, hp => perm_apply (q := q) (tset_sorted hs) (perm_set hs hp r)
theorem fnd_perm {l L : List RecA} (hs : SortedK l) (hp : l.Perm L) (k : List UInt8) : fnd L k = fnd l k := by
  cases h : fnd l k with
  | none =>
    rw [fnd_none] at h ⊢
    exact fun r hr => h r (hp.mem_iff.2 hr)
  | some r =>
    have h1 := fnd_some h
    cases h2 : fnd L k with
    | none => exact absurd h1.2 (fnd_none.1 h2 r (hp.mem_iff.1 h1.1))
    | some x =>
      have h3 := fnd_some h2
      have h4 := (fnd_iff hs).2 ⟨hp.mem_iff.2 h3.1, h3.2⟩
      rw [h] at h4; exact h4.symm
theorem getT_fnd {l : List RecA} {k : List UInt8} : getT l k = getF l k := by
  unfold getT getF fnd; rfl
theorem applyL_len2 {l q : List RecA} : (applyL l q).length ≤ l.length + q.length := applyL_len
end Go.Ev

set_option linter.unusedVariables false
set_option linter.unusedSimpArgs false
namespace Go.Ev
set_option maxRecDepth 100000
set_option maxHeartbeats 0
open Go.Proofs
structure CallA where
  kind : Int
  l : List One
  fr : Bool
  key : List UInt8
  to : List UInt8
  most : Int
def encCall (r : CallA) : AV := .agg [.int .i64 r.kind, .lst false 6 (r.l.map encO), .bool r.fr, .str (ofL r.key), .str (ofL r.to), .int .i64 r.most]
theorem encCall_cells {r : CallA} : cellsOf (encCall r) = [.int .i64 r.kind, .lst false 6 (r.l.map encO), .bool r.fr, .str (ofL r.key), .str (ofL r.to), .int .i64 r.most] := rfl
theorem encCall_low {r : CallA} : low (encCall r) = encCall r := by simp [encCall, low, lowL, lowL_map, encO_low]
theorem encCall_bd {r : CallA} {n : Nat} : Bd n (encCall r) = True := by simp [encCall, Bd, BdL, bdL_map, encO_bd]
theorem encCall_noO {r : CallA} : NoO (encCall r) = True := by simp [encCall, NoO, NoOL, noOL_map, encO_noO]
theorem encCall_okE {r : CallA} : okE 6 (encCall r) = True := by simp [encCall, okE, cellsOf, allC1, C1]
attribute [push_cast] encCall_cells encCall_low encCall_bd encCall_noO encCall_okE
/-- What a call writes. -/
def callQ (nx : Int) (c : CallA) : List RecA := laidF (if c.fr = true then nx else 0) 12 c.l
def doesQ (nx : Int) (c : CallA) : Bool := (decide (c.kind = 0) || decide (c.kind = 1) || decide (c.kind = 2)) && okQ nx (callQ nx c)
def stepN (nx : Int) (c : CallA) : Int := if doesQ nx c = true then applyN nx (callQ nx c) else nx
def stepT (nx : Int) (l : List RecA) (c : CallA) : List RecA := if doesQ nx c = true then applyL l (callQ nx c) else l
def stepR (nx : Int) (l : List RecA) (c : CallA) : List RecA := if doesQ nx c = true then rapplyL l (callQ nx c) else l
theorem laid12_is {l : List One} {f : Int} {Q : List RecA} (h : laidF f 12 l = Q) : Spec Try.prog 10 [.lst false 6 (l.map encO), .int .i64 f, .int .i64 12] (.tup [.olst 5 (Q.map encA), .olst 5 (Q.map encA)]) [.lst false 6 (l.map encO), .int .i64 f, .int .i64 12] := h ▸ laid_spec l f 12 (by omega)
theorem laidGo_len' {a : Int} {l : List One} : (laidGo a l).length = l.length := by
  induction l generalizing a with
  | nil => rfl
  | cons o l ih => simp [laidGo, ih]
theorem callQ_len {nx : Int} {c : CallA} : (callQ nx c).length ≤ 12 := by
  unfold callQ laidF; rw [laidGo_len']; simp; omega
theorem step_spec (nx : Int) {l L : List RecA} (c : CallA) (hs : SortedK l) (hp : l.Perm L) (hl : l.length ≤ 1000) : Spec Try.prog 25 [.optr (.agg [.int .i64 nx, .olst 5 (l.map encA)]) 0, .optr (.agg [.int .i64 nx, .olst 5 (L.map encA)]) 0, .agg [.int .i64 c.kind, .lst false 6 (c.l.map encO), .bool c.fr, .str (ofL c.key), .str (ofL c.to), .int .i64 c.most]] (.bool true)
    [.optr (.agg [.int .i64 (stepN nx c), .olst 5 ((stepT nx l c).map encA)]) 0, .optr (.agg [.int .i64 (stepN nx c), .olst 5 ((stepR nx L c).map encA)]) 0, .agg [.int .i64 c.kind, .lst false 6 (c.l.map encO), .bool c.fr, .str (ofL c.key), .str (ofL c.to), .int .i64 c.most]] := by
  obtain ⟨Q, hQ⟩ : ∃ Q, callQ nx c = Q := ⟨_, rfl⟩
  have hQl : Q.length ≤ 12 := hQ ▸ callQ_len
  have hLl : L.length ≤ 1000 := by rw [← hp.length_eq]; exact hl
  by_cases hk : c.kind = 0 ∨ c.kind = 1 ∨ c.kind = 2
  · have hkb : (decide (c.kind = 0) || decide (c.kind = 1) || decide (c.kind = 2)) = true := by
      rcases hk with h | h | h <;> simp [h]
    by_cases hok : okQ nx Q = true
    · have e1 : stepN nx c = applyN nx Q := by unfold stepN doesQ; rw [hkb, hQ, hok]; rfl
      have e2 : stepT nx l c = applyL l Q := by unfold stepT doesQ; rw [hkb, hQ, hok]; rfl
      have e3 : stepR nx L c = rapplyL L Q := by unfold stepR doesQ; rw [hkb, hQ, hok]; rfl
      rw [e1, e2, e3]
      have ap := fun fl => apply_ok (fl := fl) (nx := nx) (l := l) (q := Q) hs (by omega) hok
      have rap := fun fl => rapply_ok (fl := fl) (nx := nx) (L := L) (q := Q) (by omega) hok
      by_cases hf : c.fr = true
      · have hQ' : laidF nx 12 c.l = Q := by rw [← hQ, callQ, if_pos hf]
        refine spec_run (P := Try.prog) (f := 25) (fn := Try.f25) (by kernel_rfl) (by kernel_rfl) rfl (by simp [Try.f25]) ?_; simp (maxSteps := 1000000) (disch := omega) only [push_cast, go_sem, Nat.reduceEqDiff, ↓reduceIte, reduceCtorEq, Nat.reduceAdd, Nat.reduceSub, Nat.reduceLeDiff, Nat.reduceLT, Int.reduceLT, Int.reduceLE, Int.reduceEq, Int.reduceNeg, Nat.reduceMul, Int.reduceAdd, Int.reduceToNat, Try.f25, *]
        repeat' (first
    | with_reducible refine And.intro ?_ ?_
    | (with_reducible intro hx; (try simp only [false_dec, true_dec, Int.ofNat_inj, gt_iff_lt, ge_iff_le, decide_eq_true_eq, decide_eq_false_iff_not, Bool.not_eq_true', Bool.not_eq_false', Bool.and_eq_true, Bool.or_eq_false_iff, ne_eq, Classical.not_not] at hx); (first | (exfalso; omega) | (try simp (maxSteps := 1000000) (disch := omega) only [push_cast, go_sem, Nat.reduceEqDiff, ↓reduceIte, reduceCtorEq, Nat.reduceAdd, Nat.reduceSub, Nat.reduceLeDiff, Nat.reduceLT, Int.reduceLT, Int.reduceLE, Int.reduceEq, Int.reduceNeg, Nat.reduceMul, Int.reduceAdd, Int.reduceToNat, *])))
    | (with_reducible refine branch_t ?_; (try simp (maxSteps := 1000000) (disch := omega) only [push_cast, go_sem, Nat.reduceEqDiff, ↓reduceIte, reduceCtorEq, Nat.reduceAdd, Nat.reduceSub, Nat.reduceLeDiff, Nat.reduceLT, Int.reduceLT, Int.reduceLE, Int.reduceEq, Int.reduceNeg, Nat.reduceMul, Int.reduceAdd, Int.reduceToNat, *]))
    | (with_reducible refine branch_f ?_; (try simp (maxSteps := 1000000) (disch := omega) only [push_cast, go_sem, Nat.reduceEqDiff, ↓reduceIte, reduceCtorEq, Nat.reduceAdd, Nat.reduceSub, Nat.reduceLeDiff, Nat.reduceLT, Int.reduceLT, Int.reduceLE, Int.reduceEq, Int.reduceNeg, Nat.reduceMul, Int.reduceAdd, Int.reduceToNat, *]))
    | (with_reducible refine cond_split ?_ ?_)
    | (with_reducible refine guard_split ?_ ?_)
    | ((with_reducible refine drw_open 0 ?_); simp (maxSteps := 1000000) (disch := omega) only [push_cast, go_sem, Nat.reduceEqDiff, ↓reduceIte, reduceCtorEq, Nat.reduceAdd, Nat.reduceSub, Nat.reduceLeDiff, Nat.reduceLT, Int.reduceLT, Int.reduceLE, Int.reduceEq, Int.reduceNeg, Nat.reduceMul, Int.reduceAdd, Int.reduceToNat, *]; (with_reducible refine drw_id ?_))
    | ((with_reducible refine drw_open 1 ?_); simp (maxSteps := 1000000) (disch := omega) only [push_cast, go_sem, Nat.reduceEqDiff, ↓reduceIte, reduceCtorEq, Nat.reduceAdd, Nat.reduceSub, Nat.reduceLeDiff, Nat.reduceLT, Int.reduceLT, Int.reduceLE, Int.reduceEq, Int.reduceNeg, Nat.reduceMul, Int.reduceAdd, Int.reduceToNat, *]; (with_reducible refine drw_id ?_))
    | ((with_reducible refine drw_open 2 ?_); simp (maxSteps := 1000000) (disch := omega) only [push_cast, go_sem, Nat.reduceEqDiff, ↓reduceIte, reduceCtorEq, Nat.reduceAdd, Nat.reduceSub, Nat.reduceLeDiff, Nat.reduceLT, Int.reduceLT, Int.reduceLE, Int.reduceEq, Int.reduceNeg, Nat.reduceMul, Int.reduceAdd, Int.reduceToNat, *]; (with_reducible refine drw_id ?_))
    | ((with_reducible refine drw_plan pl25_0 ?_ ?_ ?_); (focus decide +kernel); (focus rfl); (try simp (maxSteps := 1000000) (disch := omega) only [push_cast, go_sem, Nat.reduceEqDiff, ↓reduceIte, reduceCtorEq, Nat.reduceAdd, Nat.reduceSub, Nat.reduceLeDiff, Nat.reduceLT, Int.reduceLT, Int.reduceLE, Int.reduceEq, Int.reduceNeg, Nat.reduceMul, Int.reduceAdd, Int.reduceToNat, *]); (fail_if_success (with_reducible change False)))
    | ((with_reducible refine drw_intro ?_ ?_); (focus decide +kernel); (try simp (maxSteps := 1000000) (disch := omega) only [push_cast, go_sem, Nat.reduceEqDiff, ↓reduceIte, reduceCtorEq, Nat.reduceAdd, Nat.reduceSub, Nat.reduceLeDiff, Nat.reduceLT, Int.reduceLT, Int.reduceLE, Int.reduceEq, Int.reduceNeg, Nat.reduceMul, Int.reduceAdd, Int.reduceToNat, *]))
    | (with_reducible refine still_split ?_ ?_)
    | ((with_reducible refine call_by2 [] (laid12_is hQ') (by first | (refine ⟨?_, ?_, ?_, ?_⟩ <;> ((try simp (maxSteps := 1000000) (disch := omega) only [push_cast, go_sem, Nat.reduceEqDiff, ↓reduceIte, reduceCtorEq, Nat.reduceAdd, Nat.reduceSub, Nat.reduceLeDiff, Nat.reduceLT, Int.reduceLT, Int.reduceLE, Int.reduceEq, Int.reduceNeg, Nat.reduceMul, Int.reduceAdd, Int.reduceToNat, *]); (try rfl); (try omega); done)) | fail) ?_) <;> (try simp (maxSteps := 1000000) (disch := omega) only [push_cast, go_sem, Nat.reduceEqDiff, ↓reduceIte, reduceCtorEq, Nat.reduceAdd, Nat.reduceSub, Nat.reduceLeDiff, Nat.reduceLT, Int.reduceLT, Int.reduceLE, Int.reduceEq, Int.reduceNeg, Nat.reduceMul, Int.reduceAdd, Int.reduceToNat, *]))
    | ((with_reducible refine call_by2 [true] (ap _) (by first | (refine ⟨?_, ?_, ?_, ?_⟩ <;> ((try simp (maxSteps := 1000000) (disch := omega) only [push_cast, go_sem, Nat.reduceEqDiff, ↓reduceIte, reduceCtorEq, Nat.reduceAdd, Nat.reduceSub, Nat.reduceLeDiff, Nat.reduceLT, Int.reduceLT, Int.reduceLE, Int.reduceEq, Int.reduceNeg, Nat.reduceMul, Int.reduceAdd, Int.reduceToNat, *]); (try rfl); (try omega); done)) | fail) ?_) <;> (try simp (maxSteps := 1000000) (disch := omega) only [push_cast, go_sem, Nat.reduceEqDiff, ↓reduceIte, reduceCtorEq, Nat.reduceAdd, Nat.reduceSub, Nat.reduceLeDiff, Nat.reduceLT, Int.reduceLT, Int.reduceLE, Int.reduceEq, Int.reduceNeg, Nat.reduceMul, Int.reduceAdd, Int.reduceToNat, *]))
    | ((with_reducible refine call_by2 [true] (rap _) (by first | (refine ⟨?_, ?_, ?_, ?_⟩ <;> ((try simp (maxSteps := 1000000) (disch := omega) only [push_cast, go_sem, Nat.reduceEqDiff, ↓reduceIte, reduceCtorEq, Nat.reduceAdd, Nat.reduceSub, Nat.reduceLeDiff, Nat.reduceLT, Int.reduceLT, Int.reduceLE, Int.reduceEq, Int.reduceNeg, Nat.reduceMul, Int.reduceAdd, Int.reduceToNat, *]); (try rfl); (try omega); done)) | fail) ?_) <;> (try simp (maxSteps := 1000000) (disch := omega) only [push_cast, go_sem, Nat.reduceEqDiff, ↓reduceIte, reduceCtorEq, Nat.reduceAdd, Nat.reduceSub, Nat.reduceLeDiff, Nat.reduceLT, Int.reduceLT, Int.reduceLE, Int.reduceEq, Int.reduceNeg, Nat.reduceMul, Int.reduceAdd, Int.reduceToNat, *]))
    | omega)
      · have hQ' : laidF 0 12 c.l = Q := by rw [← hQ, callQ, if_neg hf]
        refine spec_run (P := Try.prog) (f := 25) (fn := Try.f25) (by kernel_rfl) (by kernel_rfl) rfl (by simp [Try.f25]) ?_; simp (maxSteps := 1000000) (disch := omega) only [push_cast, go_sem, Nat.reduceEqDiff, ↓reduceIte, reduceCtorEq, Nat.reduceAdd, Nat.reduceSub, Nat.reduceLeDiff, Nat.reduceLT, Int.reduceLT, Int.reduceLE, Int.reduceEq, Int.reduceNeg, Nat.reduceMul, Int.reduceAdd, Int.reduceToNat, Try.f25, *]
        repeat' (first
    | with_reducible refine And.intro ?_ ?_
    | (with_reducible intro hx; (try simp only [false_dec, true_dec, Int.ofNat_inj, gt_iff_lt, ge_iff_le, decide_eq_true_eq, decide_eq_false_iff_not, Bool.not_eq_true', Bool.not_eq_false', Bool.and_eq_true, Bool.or_eq_false_iff, ne_eq, Classical.not_not] at hx); (first | (exfalso; omega) | (try simp (maxSteps := 1000000) (disch := omega) only [push_cast, go_sem, Nat.reduceEqDiff, ↓reduceIte, reduceCtorEq, Nat.reduceAdd, Nat.reduceSub, Nat.reduceLeDiff, Nat.reduceLT, Int.reduceLT, Int.reduceLE, Int.reduceEq, Int.reduceNeg, Nat.reduceMul, Int.reduceAdd, Int.reduceToNat, *])))
    | (with_reducible refine branch_t ?_; (try simp (maxSteps := 1000000) (disch := omega) only [push_cast, go_sem, Nat.reduceEqDiff, ↓reduceIte, reduceCtorEq, Nat.reduceAdd, Nat.reduceSub, Nat.reduceLeDiff, Nat.reduceLT, Int.reduceLT, Int.reduceLE, Int.reduceEq, Int.reduceNeg, Nat.reduceMul, Int.reduceAdd, Int.reduceToNat, *]))
    | (with_reducible refine branch_f ?_; (try simp (maxSteps := 1000000) (disch := omega) only [push_cast, go_sem, Nat.reduceEqDiff, ↓reduceIte, reduceCtorEq, Nat.reduceAdd, Nat.reduceSub, Nat.reduceLeDiff, Nat.reduceLT, Int.reduceLT, Int.reduceLE, Int.reduceEq, Int.reduceNeg, Nat.reduceMul, Int.reduceAdd, Int.reduceToNat, *]))
    | (with_reducible refine cond_split ?_ ?_)
    | (with_reducible refine guard_split ?_ ?_)
    | ((with_reducible refine drw_open 0 ?_); simp (maxSteps := 1000000) (disch := omega) only [push_cast, go_sem, Nat.reduceEqDiff, ↓reduceIte, reduceCtorEq, Nat.reduceAdd, Nat.reduceSub, Nat.reduceLeDiff, Nat.reduceLT, Int.reduceLT, Int.reduceLE, Int.reduceEq, Int.reduceNeg, Nat.reduceMul, Int.reduceAdd, Int.reduceToNat, *]; (with_reducible refine drw_id ?_))
    | ((with_reducible refine drw_open 1 ?_); simp (maxSteps := 1000000) (disch := omega) only [push_cast, go_sem, Nat.reduceEqDiff, ↓reduceIte, reduceCtorEq, Nat.reduceAdd, Nat.reduceSub, Nat.reduceLeDiff, Nat.reduceLT, Int.reduceLT, Int.reduceLE, Int.reduceEq, Int.reduceNeg, Nat.reduceMul, Int.reduceAdd, Int.reduceToNat, *]; (with_reducible refine drw_id ?_))
    | ((with_reducible refine drw_open 2 ?_); simp (maxSteps := 1000000) (disch := omega) only [push_cast, go_sem, Nat.reduceEqDiff, ↓reduceIte, reduceCtorEq, Nat.reduceAdd, Nat.reduceSub, Nat.reduceLeDiff, Nat.reduceLT, Int.reduceLT, Int.reduceLE, Int.reduceEq, Int.reduceNeg, Nat.reduceMul, Int.reduceAdd, Int.reduceToNat, *]; (with_reducible refine drw_id ?_))
    | ((with_reducible refine drw_plan pl25_0 ?_ ?_ ?_); (focus decide +kernel); (focus rfl); (try simp (maxSteps := 1000000) (disch := omega) only [push_cast, go_sem, Nat.reduceEqDiff, ↓reduceIte, reduceCtorEq, Nat.reduceAdd, Nat.reduceSub, Nat.reduceLeDiff, Nat.reduceLT, Int.reduceLT, Int.reduceLE, Int.reduceEq, Int.reduceNeg, Nat.reduceMul, Int.reduceAdd, Int.reduceToNat, *]); (fail_if_success (with_reducible change False)))
    | ((with_reducible refine drw_intro ?_ ?_); (focus decide +kernel); (try simp (maxSteps := 1000000) (disch := omega) only [push_cast, go_sem, Nat.reduceEqDiff, ↓reduceIte, reduceCtorEq, Nat.reduceAdd, Nat.reduceSub, Nat.reduceLeDiff, Nat.reduceLT, Int.reduceLT, Int.reduceLE, Int.reduceEq, Int.reduceNeg, Nat.reduceMul, Int.reduceAdd, Int.reduceToNat, *]))
    | (with_reducible refine still_split ?_ ?_)
    | ((with_reducible refine call_by2 [] (laid12_is hQ') (by first | (refine ⟨?_, ?_, ?_, ?_⟩ <;> ((try simp (maxSteps := 1000000) (disch := omega) only [push_cast, go_sem, Nat.reduceEqDiff, ↓reduceIte, reduceCtorEq, Nat.reduceAdd, Nat.reduceSub, Nat.reduceLeDiff, Nat.reduceLT, Int.reduceLT, Int.reduceLE, Int.reduceEq, Int.reduceNeg, Nat.reduceMul, Int.reduceAdd, Int.reduceToNat, *]); (try rfl); (try omega); done)) | fail) ?_) <;> (try simp (maxSteps := 1000000) (disch := omega) only [push_cast, go_sem, Nat.reduceEqDiff, ↓reduceIte, reduceCtorEq, Nat.reduceAdd, Nat.reduceSub, Nat.reduceLeDiff, Nat.reduceLT, Int.reduceLT, Int.reduceLE, Int.reduceEq, Int.reduceNeg, Nat.reduceMul, Int.reduceAdd, Int.reduceToNat, *]))
    | ((with_reducible refine call_by2 [true] (ap _) (by first | (refine ⟨?_, ?_, ?_, ?_⟩ <;> ((try simp (maxSteps := 1000000) (disch := omega) only [push_cast, go_sem, Nat.reduceEqDiff, ↓reduceIte, reduceCtorEq, Nat.reduceAdd, Nat.reduceSub, Nat.reduceLeDiff, Nat.reduceLT, Int.reduceLT, Int.reduceLE, Int.reduceEq, Int.reduceNeg, Nat.reduceMul, Int.reduceAdd, Int.reduceToNat, *]); (try rfl); (try omega); done)) | fail) ?_) <;> (try simp (maxSteps := 1000000) (disch := omega) only [push_cast, go_sem, Nat.reduceEqDiff, ↓reduceIte, reduceCtorEq, Nat.reduceAdd, Nat.reduceSub, Nat.reduceLeDiff, Nat.reduceLT, Int.reduceLT, Int.reduceLE, Int.reduceEq, Int.reduceNeg, Nat.reduceMul, Int.reduceAdd, Int.reduceToNat, *]))
    | ((with_reducible refine call_by2 [true] (rap _) (by first | (refine ⟨?_, ?_, ?_, ?_⟩ <;> ((try simp (maxSteps := 1000000) (disch := omega) only [push_cast, go_sem, Nat.reduceEqDiff, ↓reduceIte, reduceCtorEq, Nat.reduceAdd, Nat.reduceSub, Nat.reduceLeDiff, Nat.reduceLT, Int.reduceLT, Int.reduceLE, Int.reduceEq, Int.reduceNeg, Nat.reduceMul, Int.reduceAdd, Int.reduceToNat, *]); (try rfl); (try omega); done)) | fail) ?_) <;> (try simp (maxSteps := 1000000) (disch := omega) only [push_cast, go_sem, Nat.reduceEqDiff, ↓reduceIte, reduceCtorEq, Nat.reduceAdd, Nat.reduceSub, Nat.reduceLeDiff, Nat.reduceLT, Int.reduceLT, Int.reduceLE, Int.reduceEq, Int.reduceNeg, Nat.reduceMul, Int.reduceAdd, Int.reduceToNat, *]))
    | omega)
    · have hok : okQ nx Q = false := by simpa using hok
      have e1 : stepN nx c = nx := by unfold stepN doesQ; rw [hkb, hQ, hok]; rfl
      have e2 : stepT nx l c = l := by unfold stepT doesQ; rw [hkb, hQ, hok]; rfl
      have e3 : stepR nx L c = L := by unfold stepR doesQ; rw [hkb, hQ, hok]; rfl
      rw [e1, e2, e3]
      have ap := fun fl => apply_no (fl := fl) (nx := nx) (l := l) (q := Q) hok
      have rap := fun fl => rapply_no (fl := fl) (nx := nx) (L := L) (q := Q) (by omega) hok
      by_cases hf : c.fr = true
      · have hQ' : laidF nx 12 c.l = Q := by rw [← hQ, callQ, if_pos hf]
        refine spec_run (P := Try.prog) (f := 25) (fn := Try.f25) (by kernel_rfl) (by kernel_rfl) rfl (by simp [Try.f25]) ?_; simp (maxSteps := 1000000) (disch := omega) only [push_cast, go_sem, Nat.reduceEqDiff, ↓reduceIte, reduceCtorEq, Nat.reduceAdd, Nat.reduceSub, Nat.reduceLeDiff, Nat.reduceLT, Int.reduceLT, Int.reduceLE, Int.reduceEq, Int.reduceNeg, Nat.reduceMul, Int.reduceAdd, Int.reduceToNat, Try.f25, *]
        repeat' (first
    | with_reducible refine And.intro ?_ ?_
    | (with_reducible intro hx; (try simp only [false_dec, true_dec, Int.ofNat_inj, gt_iff_lt, ge_iff_le, decide_eq_true_eq, decide_eq_false_iff_not, Bool.not_eq_true', Bool.not_eq_false', Bool.and_eq_true, Bool.or_eq_false_iff, ne_eq, Classical.not_not] at hx); (first | (exfalso; omega) | (try simp (maxSteps := 1000000) (disch := omega) only [push_cast, go_sem, Nat.reduceEqDiff, ↓reduceIte, reduceCtorEq, Nat.reduceAdd, Nat.reduceSub, Nat.reduceLeDiff, Nat.reduceLT, Int.reduceLT, Int.reduceLE, Int.reduceEq, Int.reduceNeg, Nat.reduceMul, Int.reduceAdd, Int.reduceToNat, *])))
    | (with_reducible refine branch_t ?_; (try simp (maxSteps := 1000000) (disch := omega) only [push_cast, go_sem, Nat.reduceEqDiff, ↓reduceIte, reduceCtorEq, Nat.reduceAdd, Nat.reduceSub, Nat.reduceLeDiff, Nat.reduceLT, Int.reduceLT, Int.reduceLE, Int.reduceEq, Int.reduceNeg, Nat.reduceMul, Int.reduceAdd, Int.reduceToNat, *]))
    | (with_reducible refine branch_f ?_; (try simp (maxSteps := 1000000) (disch := omega) only [push_cast, go_sem, Nat.reduceEqDiff, ↓reduceIte, reduceCtorEq, Nat.reduceAdd, Nat.reduceSub, Nat.reduceLeDiff, Nat.reduceLT, Int.reduceLT, Int.reduceLE, Int.reduceEq, Int.reduceNeg, Nat.reduceMul, Int.reduceAdd, Int.reduceToNat, *]))
    | (with_reducible refine cond_split ?_ ?_)
    | (with_reducible refine guard_split ?_ ?_)
    | ((with_reducible refine drw_open 0 ?_); simp (maxSteps := 1000000) (disch := omega) only [push_cast, go_sem, Nat.reduceEqDiff, ↓reduceIte, reduceCtorEq, Nat.reduceAdd, Nat.reduceSub, Nat.reduceLeDiff, Nat.reduceLT, Int.reduceLT, Int.reduceLE, Int.reduceEq, Int.reduceNeg, Nat.reduceMul, Int.reduceAdd, Int.reduceToNat, *]; (with_reducible refine drw_id ?_))
    | ((with_reducible refine drw_open 1 ?_); simp (maxSteps := 1000000) (disch := omega) only [push_cast, go_sem, Nat.reduceEqDiff, ↓reduceIte, reduceCtorEq, Nat.reduceAdd, Nat.reduceSub, Nat.reduceLeDiff, Nat.reduceLT, Int.reduceLT, Int.reduceLE, Int.reduceEq, Int.reduceNeg, Nat.reduceMul, Int.reduceAdd, Int.reduceToNat, *]; (with_reducible refine drw_id ?_))
    | ((with_reducible refine drw_open 2 ?_); simp (maxSteps := 1000000) (disch := omega) only [push_cast, go_sem, Nat.reduceEqDiff, ↓reduceIte, reduceCtorEq, Nat.reduceAdd, Nat.reduceSub, Nat.reduceLeDiff, Nat.reduceLT, Int.reduceLT, Int.reduceLE, Int.reduceEq, Int.reduceNeg, Nat.reduceMul, Int.reduceAdd, Int.reduceToNat, *]; (with_reducible refine drw_id ?_))
    | ((with_reducible refine drw_plan pl25_0 ?_ ?_ ?_); (focus decide +kernel); (focus rfl); (try simp (maxSteps := 1000000) (disch := omega) only [push_cast, go_sem, Nat.reduceEqDiff, ↓reduceIte, reduceCtorEq, Nat.reduceAdd, Nat.reduceSub, Nat.reduceLeDiff, Nat.reduceLT, Int.reduceLT, Int.reduceLE, Int.reduceEq, Int.reduceNeg, Nat.reduceMul, Int.reduceAdd, Int.reduceToNat, *]); (fail_if_success (with_reducible change False)))
    | ((with_reducible refine drw_intro ?_ ?_); (focus decide +kernel); (try simp (maxSteps := 1000000) (disch := omega) only [push_cast, go_sem, Nat.reduceEqDiff, ↓reduceIte, reduceCtorEq, Nat.reduceAdd, Nat.reduceSub, Nat.reduceLeDiff, Nat.reduceLT, Int.reduceLT, Int.reduceLE, Int.reduceEq, Int.reduceNeg, Nat.reduceMul, Int.reduceAdd, Int.reduceToNat, *]))
    | (with_reducible refine still_split ?_ ?_)
    | ((with_reducible refine call_by2 [] (laid12_is hQ') (by first | (refine ⟨?_, ?_, ?_, ?_⟩ <;> ((try simp (maxSteps := 1000000) (disch := omega) only [push_cast, go_sem, Nat.reduceEqDiff, ↓reduceIte, reduceCtorEq, Nat.reduceAdd, Nat.reduceSub, Nat.reduceLeDiff, Nat.reduceLT, Int.reduceLT, Int.reduceLE, Int.reduceEq, Int.reduceNeg, Nat.reduceMul, Int.reduceAdd, Int.reduceToNat, *]); (try rfl); (try omega); done)) | fail) ?_) <;> (try simp (maxSteps := 1000000) (disch := omega) only [push_cast, go_sem, Nat.reduceEqDiff, ↓reduceIte, reduceCtorEq, Nat.reduceAdd, Nat.reduceSub, Nat.reduceLeDiff, Nat.reduceLT, Int.reduceLT, Int.reduceLE, Int.reduceEq, Int.reduceNeg, Nat.reduceMul, Int.reduceAdd, Int.reduceToNat, *]))
    | ((with_reducible refine call_by2 [true] (ap _) (by first | (refine ⟨?_, ?_, ?_, ?_⟩ <;> ((try simp (maxSteps := 1000000) (disch := omega) only [push_cast, go_sem, Nat.reduceEqDiff, ↓reduceIte, reduceCtorEq, Nat.reduceAdd, Nat.reduceSub, Nat.reduceLeDiff, Nat.reduceLT, Int.reduceLT, Int.reduceLE, Int.reduceEq, Int.reduceNeg, Nat.reduceMul, Int.reduceAdd, Int.reduceToNat, *]); (try rfl); (try omega); done)) | fail) ?_) <;> (try simp (maxSteps := 1000000) (disch := omega) only [push_cast, go_sem, Nat.reduceEqDiff, ↓reduceIte, reduceCtorEq, Nat.reduceAdd, Nat.reduceSub, Nat.reduceLeDiff, Nat.reduceLT, Int.reduceLT, Int.reduceLE, Int.reduceEq, Int.reduceNeg, Nat.reduceMul, Int.reduceAdd, Int.reduceToNat, *]))
    | ((with_reducible refine call_by2 [true] (rap _) (by first | (refine ⟨?_, ?_, ?_, ?_⟩ <;> ((try simp (maxSteps := 1000000) (disch := omega) only [push_cast, go_sem, Nat.reduceEqDiff, ↓reduceIte, reduceCtorEq, Nat.reduceAdd, Nat.reduceSub, Nat.reduceLeDiff, Nat.reduceLT, Int.reduceLT, Int.reduceLE, Int.reduceEq, Int.reduceNeg, Nat.reduceMul, Int.reduceAdd, Int.reduceToNat, *]); (try rfl); (try omega); done)) | fail) ?_) <;> (try simp (maxSteps := 1000000) (disch := omega) only [push_cast, go_sem, Nat.reduceEqDiff, ↓reduceIte, reduceCtorEq, Nat.reduceAdd, Nat.reduceSub, Nat.reduceLeDiff, Nat.reduceLT, Int.reduceLT, Int.reduceLE, Int.reduceEq, Int.reduceNeg, Nat.reduceMul, Int.reduceAdd, Int.reduceToNat, *]))
    | omega)
      · have hQ' : laidF 0 12 c.l = Q := by rw [← hQ, callQ, if_neg hf]
        refine spec_run (P := Try.prog) (f := 25) (fn := Try.f25) (by kernel_rfl) (by kernel_rfl) rfl (by simp [Try.f25]) ?_; simp (maxSteps := 1000000) (disch := omega) only [push_cast, go_sem, Nat.reduceEqDiff, ↓reduceIte, reduceCtorEq, Nat.reduceAdd, Nat.reduceSub, Nat.reduceLeDiff, Nat.reduceLT, Int.reduceLT, Int.reduceLE, Int.reduceEq, Int.reduceNeg, Nat.reduceMul, Int.reduceAdd, Int.reduceToNat, Try.f25, *]
        repeat' (first
    | with_reducible refine And.intro ?_ ?_
    | (with_reducible intro hx; (try simp only [false_dec, true_dec, Int.ofNat_inj, gt_iff_lt, ge_iff_le, decide_eq_true_eq, decide_eq_false_iff_not, Bool.not_eq_true', Bool.not_eq_false', Bool.and_eq_true, Bool.or_eq_false_iff, ne_eq, Classical.not_not] at hx); (first | (exfalso; omega) | (try simp (maxSteps := 1000000) (disch := omega) only [push_cast, go_sem, Nat.reduceEqDiff, ↓reduceIte, reduceCtorEq, Nat.reduceAdd, Nat.reduceSub, Nat.reduceLeDiff, Nat.reduceLT, Int.reduceLT, Int.reduceLE, Int.reduceEq, Int.reduceNeg, Nat.reduceMul, Int.reduceAdd, Int.reduceToNat, *])))
    | (with_reducible refine branch_t ?_; (try simp (maxSteps := 1000000) (disch := omega) only [push_cast, go_sem, Nat.reduceEqDiff, ↓reduceIte, reduceCtorEq, Nat.reduceAdd, Nat.reduceSub, Nat.reduceLeDiff, Nat.reduceLT, Int.reduceLT, Int.reduceLE, Int.reduceEq, Int.reduceNeg, Nat.reduceMul, Int.reduceAdd, Int.reduceToNat, *]))
    | (with_reducible refine branch_f ?_; (try simp (maxSteps := 1000000) (disch := omega) only [push_cast, go_sem, Nat.reduceEqDiff, ↓reduceIte, reduceCtorEq, Nat.reduceAdd, Nat.reduceSub, Nat.reduceLeDiff, Nat.reduceLT, Int.reduceLT, Int.reduceLE, Int.reduceEq, Int.reduceNeg, Nat.reduceMul, Int.reduceAdd, Int.reduceToNat, *]))
    | (with_reducible refine cond_split ?_ ?_)
    | (with_reducible refine guard_split ?_ ?_)
    | ((with_reducible refine drw_open 0 ?_); simp (maxSteps := 1000000) (disch := omega) only [push_cast, go_sem, Nat.reduceEqDiff, ↓reduceIte, reduceCtorEq, Nat.reduceAdd, Nat.reduceSub, Nat.reduceLeDiff, Nat.reduceLT, Int.reduceLT, Int.reduceLE, Int.reduceEq, Int.reduceNeg, Nat.reduceMul, Int.reduceAdd, Int.reduceToNat, *]; (with_reducible refine drw_id ?_))
    | ((with_reducible refine drw_open 1 ?_); simp (maxSteps := 1000000) (disch := omega) only [push_cast, go_sem, Nat.reduceEqDiff, ↓reduceIte, reduceCtorEq, Nat.reduceAdd, Nat.reduceSub, Nat.reduceLeDiff, Nat.reduceLT, Int.reduceLT, Int.reduceLE, Int.reduceEq, Int.reduceNeg, Nat.reduceMul, Int.reduceAdd, Int.reduceToNat, *]; (with_reducible refine drw_id ?_))
    | ((with_reducible refine drw_open 2 ?_); simp (maxSteps := 1000000) (disch := omega) only [push_cast, go_sem, Nat.reduceEqDiff, ↓reduceIte, reduceCtorEq, Nat.reduceAdd, Nat.reduceSub, Nat.reduceLeDiff, Nat.reduceLT, Int.reduceLT, Int.reduceLE, Int.reduceEq, Int.reduceNeg, Nat.reduceMul, Int.reduceAdd, Int.reduceToNat, *]; (with_reducible refine drw_id ?_))
    | ((with_reducible refine drw_plan pl25_0 ?_ ?_ ?_); (focus decide +kernel); (focus rfl); (try simp (maxSteps := 1000000) (disch := omega) only [push_cast, go_sem, Nat.reduceEqDiff, ↓reduceIte, reduceCtorEq, Nat.reduceAdd, Nat.reduceSub, Nat.reduceLeDiff, Nat.reduceLT, Int.reduceLT, Int.reduceLE, Int.reduceEq, Int.reduceNeg, Nat.reduceMul, Int.reduceAdd, Int.reduceToNat, *]); (fail_if_success (with_reducible change False)))
    | ((with_reducible refine drw_intro ?_ ?_); (focus decide +kernel); (try simp (maxSteps := 1000000) (disch := omega) only [push_cast, go_sem, Nat.reduceEqDiff, ↓reduceIte, reduceCtorEq, Nat.reduceAdd, Nat.reduceSub, Nat.reduceLeDiff, Nat.reduceLT, Int.reduceLT, Int.reduceLE, Int.reduceEq, Int.reduceNeg, Nat.reduceMul, Int.reduceAdd, Int.reduceToNat, *]))
    | (with_reducible refine still_split ?_ ?_)
    | ((with_reducible refine call_by2 [] (laid12_is hQ') (by first | (refine ⟨?_, ?_, ?_, ?_⟩ <;> ((try simp (maxSteps := 1000000) (disch := omega) only [push_cast, go_sem, Nat.reduceEqDiff, ↓reduceIte, reduceCtorEq, Nat.reduceAdd, Nat.reduceSub, Nat.reduceLeDiff, Nat.reduceLT, Int.reduceLT, Int.reduceLE, Int.reduceEq, Int.reduceNeg, Nat.reduceMul, Int.reduceAdd, Int.reduceToNat, *]); (try rfl); (try omega); done)) | fail) ?_) <;> (try simp (maxSteps := 1000000) (disch := omega) only [push_cast, go_sem, Nat.reduceEqDiff, ↓reduceIte, reduceCtorEq, Nat.reduceAdd, Nat.reduceSub, Nat.reduceLeDiff, Nat.reduceLT, Int.reduceLT, Int.reduceLE, Int.reduceEq, Int.reduceNeg, Nat.reduceMul, Int.reduceAdd, Int.reduceToNat, *]))
    | ((with_reducible refine call_by2 [true] (ap _) (by first | (refine ⟨?_, ?_, ?_, ?_⟩ <;> ((try simp (maxSteps := 1000000) (disch := omega) only [push_cast, go_sem, Nat.reduceEqDiff, ↓reduceIte, reduceCtorEq, Nat.reduceAdd, Nat.reduceSub, Nat.reduceLeDiff, Nat.reduceLT, Int.reduceLT, Int.reduceLE, Int.reduceEq, Int.reduceNeg, Nat.reduceMul, Int.reduceAdd, Int.reduceToNat, *]); (try rfl); (try omega); done)) | fail) ?_) <;> (try simp (maxSteps := 1000000) (disch := omega) only [push_cast, go_sem, Nat.reduceEqDiff, ↓reduceIte, reduceCtorEq, Nat.reduceAdd, Nat.reduceSub, Nat.reduceLeDiff, Nat.reduceLT, Int.reduceLT, Int.reduceLE, Int.reduceEq, Int.reduceNeg, Nat.reduceMul, Int.reduceAdd, Int.reduceToNat, *]))
    | ((with_reducible refine call_by2 [true] (rap _) (by first | (refine ⟨?_, ?_, ?_, ?_⟩ <;> ((try simp (maxSteps := 1000000) (disch := omega) only [push_cast, go_sem, Nat.reduceEqDiff, ↓reduceIte, reduceCtorEq, Nat.reduceAdd, Nat.reduceSub, Nat.reduceLeDiff, Nat.reduceLT, Int.reduceLT, Int.reduceLE, Int.reduceEq, Int.reduceNeg, Nat.reduceMul, Int.reduceAdd, Int.reduceToNat, *]); (try rfl); (try omega); done)) | fail) ?_) <;> (try simp (maxSteps := 1000000) (disch := omega) only [push_cast, go_sem, Nat.reduceEqDiff, ↓reduceIte, reduceCtorEq, Nat.reduceAdd, Nat.reduceSub, Nat.reduceLeDiff, Nat.reduceLT, Int.reduceLT, Int.reduceLE, Int.reduceEq, Int.reduceNeg, Nat.reduceMul, Int.reduceAdd, Int.reduceToNat, *]))
    | omega)
  · have hkb : (decide (c.kind = 0) || decide (c.kind = 1) || decide (c.kind = 2)) = false := by
      simp only [not_or] at hk
      simp [hk.1, hk.2.1, hk.2.2]
    have e1 : stepN nx c = nx := by unfold stepN doesQ; rw [hkb]; rfl
    have e2 : stepT nx l c = l := by unfold stepT doesQ; rw [hkb]; rfl
    have e3 : stepR nx L c = L := by unfold stepR doesQ; rw [hkb]; rfl
    rw [e1, e2, e3]
    have g1 := fun k => get_spec nx l k hs (by omega)
    have g2 := fun k => rget_spec nx L k
    have eg : ∀ k, getF L k = getT l k := fun k => by rw [getT_fnd]; unfold getF; rw [fnd_perm hs hp]
    have eh : ∀ k, (fnd L k).isSome = hasK l k := fun k => by rw [hasK_fnd, fnd_perm hs hp]
    simp only [eg, eh] at g2
    clear eg eh
    simp only [encA] at g1 g2
    have r1 := fun a b => range_spec nx l a b c.most hs (by omega)
    have r2 := fun a b => rrange_spec nx l L a b c.most hs hp (by omega)
    refine spec_run (P := Try.prog) (f := 25) (fn := Try.f25) (by kernel_rfl) (by kernel_rfl) rfl (by simp [Try.f25]) ?_; simp (maxSteps := 1000000) (disch := omega) only [push_cast, go_sem, Nat.reduceEqDiff, ↓reduceIte, reduceCtorEq, Nat.reduceAdd, Nat.reduceSub, Nat.reduceLeDiff, Nat.reduceLT, Int.reduceLT, Int.reduceLE, Int.reduceEq, Int.reduceNeg, Nat.reduceMul, Int.reduceAdd, Int.reduceToNat, Try.f25, *]
    repeat' (first
    | with_reducible refine And.intro ?_ ?_
    | (with_reducible intro hx; (try simp only [false_dec, true_dec, Int.ofNat_inj, gt_iff_lt, ge_iff_le, decide_eq_true_eq, decide_eq_false_iff_not, Bool.not_eq_true', Bool.not_eq_false', Bool.and_eq_true, Bool.or_eq_false_iff, ne_eq, Classical.not_not] at hx); (first | (exfalso; omega) | (try simp (maxSteps := 1000000) (disch := omega) only [push_cast, go_sem, Nat.reduceEqDiff, ↓reduceIte, reduceCtorEq, Nat.reduceAdd, Nat.reduceSub, Nat.reduceLeDiff, Nat.reduceLT, Int.reduceLT, Int.reduceLE, Int.reduceEq, Int.reduceNeg, Nat.reduceMul, Int.reduceAdd, Int.reduceToNat, *])))
    | (with_reducible refine branch_t ?_; (try simp (maxSteps := 1000000) (disch := omega) only [push_cast, go_sem, Nat.reduceEqDiff, ↓reduceIte, reduceCtorEq, Nat.reduceAdd, Nat.reduceSub, Nat.reduceLeDiff, Nat.reduceLT, Int.reduceLT, Int.reduceLE, Int.reduceEq, Int.reduceNeg, Nat.reduceMul, Int.reduceAdd, Int.reduceToNat, *]))
    | (with_reducible refine branch_f ?_; (try simp (maxSteps := 1000000) (disch := omega) only [push_cast, go_sem, Nat.reduceEqDiff, ↓reduceIte, reduceCtorEq, Nat.reduceAdd, Nat.reduceSub, Nat.reduceLeDiff, Nat.reduceLT, Int.reduceLT, Int.reduceLE, Int.reduceEq, Int.reduceNeg, Nat.reduceMul, Int.reduceAdd, Int.reduceToNat, *]))
    | (with_reducible refine cond_split ?_ ?_)
    | (with_reducible refine guard_split ?_ ?_)
    | ((with_reducible refine drw_open 0 ?_); simp (maxSteps := 1000000) (disch := omega) only [push_cast, go_sem, Nat.reduceEqDiff, ↓reduceIte, reduceCtorEq, Nat.reduceAdd, Nat.reduceSub, Nat.reduceLeDiff, Nat.reduceLT, Int.reduceLT, Int.reduceLE, Int.reduceEq, Int.reduceNeg, Nat.reduceMul, Int.reduceAdd, Int.reduceToNat, *]; (with_reducible refine drw_id ?_))
    | ((with_reducible refine drw_open 1 ?_); simp (maxSteps := 1000000) (disch := omega) only [push_cast, go_sem, Nat.reduceEqDiff, ↓reduceIte, reduceCtorEq, Nat.reduceAdd, Nat.reduceSub, Nat.reduceLeDiff, Nat.reduceLT, Int.reduceLT, Int.reduceLE, Int.reduceEq, Int.reduceNeg, Nat.reduceMul, Int.reduceAdd, Int.reduceToNat, *]; (with_reducible refine drw_id ?_))
    | ((with_reducible refine drw_open 2 ?_); simp (maxSteps := 1000000) (disch := omega) only [push_cast, go_sem, Nat.reduceEqDiff, ↓reduceIte, reduceCtorEq, Nat.reduceAdd, Nat.reduceSub, Nat.reduceLeDiff, Nat.reduceLT, Int.reduceLT, Int.reduceLE, Int.reduceEq, Int.reduceNeg, Nat.reduceMul, Int.reduceAdd, Int.reduceToNat, *]; (with_reducible refine drw_id ?_))
    | ((with_reducible refine drw_plan pl25_0 ?_ ?_ ?_); (focus decide +kernel); (focus rfl); (try simp (maxSteps := 1000000) (disch := omega) only [push_cast, go_sem, Nat.reduceEqDiff, ↓reduceIte, reduceCtorEq, Nat.reduceAdd, Nat.reduceSub, Nat.reduceLeDiff, Nat.reduceLT, Int.reduceLT, Int.reduceLE, Int.reduceEq, Int.reduceNeg, Nat.reduceMul, Int.reduceAdd, Int.reduceToNat, *]); (fail_if_success (with_reducible change False)))
    | ((with_reducible refine drw_intro ?_ ?_); (focus decide +kernel); (try simp (maxSteps := 1000000) (disch := omega) only [push_cast, go_sem, Nat.reduceEqDiff, ↓reduceIte, reduceCtorEq, Nat.reduceAdd, Nat.reduceSub, Nat.reduceLeDiff, Nat.reduceLT, Int.reduceLT, Int.reduceLE, Int.reduceEq, Int.reduceNeg, Nat.reduceMul, Int.reduceAdd, Int.reduceToNat, *]))
    | (with_reducible refine still_split ?_ ?_)
    | ((with_reducible refine call_by2 [true] (g1 _) (by first | (refine ⟨?_, ?_, ?_, ?_⟩ <;> ((try simp (maxSteps := 1000000) (disch := omega) only [push_cast, go_sem, Nat.reduceEqDiff, ↓reduceIte, reduceCtorEq, Nat.reduceAdd, Nat.reduceSub, Nat.reduceLeDiff, Nat.reduceLT, Int.reduceLT, Int.reduceLE, Int.reduceEq, Int.reduceNeg, Nat.reduceMul, Int.reduceAdd, Int.reduceToNat, *]); (try rfl); (try omega); done)) | fail) ?_) <;> (try simp (maxSteps := 1000000) (disch := omega) only [push_cast, go_sem, Nat.reduceEqDiff, ↓reduceIte, reduceCtorEq, Nat.reduceAdd, Nat.reduceSub, Nat.reduceLeDiff, Nat.reduceLT, Int.reduceLT, Int.reduceLE, Int.reduceEq, Int.reduceNeg, Nat.reduceMul, Int.reduceAdd, Int.reduceToNat, *]))
    | ((with_reducible refine call_by2 [true] (g2 _) (by first | (refine ⟨?_, ?_, ?_, ?_⟩ <;> ((try simp (maxSteps := 1000000) (disch := omega) only [push_cast, go_sem, Nat.reduceEqDiff, ↓reduceIte, reduceCtorEq, Nat.reduceAdd, Nat.reduceSub, Nat.reduceLeDiff, Nat.reduceLT, Int.reduceLT, Int.reduceLE, Int.reduceEq, Int.reduceNeg, Nat.reduceMul, Int.reduceAdd, Int.reduceToNat, *]); (try rfl); (try omega); done)) | fail) ?_) <;> (try simp (maxSteps := 1000000) (disch := omega) only [push_cast, go_sem, Nat.reduceEqDiff, ↓reduceIte, reduceCtorEq, Nat.reduceAdd, Nat.reduceSub, Nat.reduceLeDiff, Nat.reduceLT, Int.reduceLT, Int.reduceLE, Int.reduceEq, Int.reduceNeg, Nat.reduceMul, Int.reduceAdd, Int.reduceToNat, *]))
    | ((with_reducible refine call_by2 [true] (r1 _ _) (by first | (refine ⟨?_, ?_, ?_, ?_⟩ <;> ((try simp (maxSteps := 1000000) (disch := omega) only [push_cast, go_sem, Nat.reduceEqDiff, ↓reduceIte, reduceCtorEq, Nat.reduceAdd, Nat.reduceSub, Nat.reduceLeDiff, Nat.reduceLT, Int.reduceLT, Int.reduceLE, Int.reduceEq, Int.reduceNeg, Nat.reduceMul, Int.reduceAdd, Int.reduceToNat, *]); (try rfl); (try omega); done)) | fail) ?_) <;> (try simp (maxSteps := 1000000) (disch := omega) only [push_cast, go_sem, Nat.reduceEqDiff, ↓reduceIte, reduceCtorEq, Nat.reduceAdd, Nat.reduceSub, Nat.reduceLeDiff, Nat.reduceLT, Int.reduceLT, Int.reduceLE, Int.reduceEq, Int.reduceNeg, Nat.reduceMul, Int.reduceAdd, Int.reduceToNat, *]))
    | ((with_reducible refine call_by2 [true] (r2 _ _) (by first | (refine ⟨?_, ?_, ?_, ?_⟩ <;> ((try simp (maxSteps := 1000000) (disch := omega) only [push_cast, go_sem, Nat.reduceEqDiff, ↓reduceIte, reduceCtorEq, Nat.reduceAdd, Nat.reduceSub, Nat.reduceLeDiff, Nat.reduceLT, Int.reduceLT, Int.reduceLE, Int.reduceEq, Int.reduceNeg, Nat.reduceMul, Int.reduceAdd, Int.reduceToNat, *]); (try rfl); (try omega); done)) | fail) ?_) <;> (try simp (maxSteps := 1000000) (disch := omega) only [push_cast, go_sem, Nat.reduceEqDiff, ↓reduceIte, reduceCtorEq, Nat.reduceAdd, Nat.reduceSub, Nat.reduceLeDiff, Nat.reduceLT, Int.reduceLT, Int.reduceLE, Int.reduceEq, Int.reduceNeg, Nat.reduceMul, Int.reduceAdd, Int.reduceToNat, *]))
    | ((with_reducible refine call_by2 [] (alike_spec _ _ _ _) (by first | (refine ⟨?_, ?_, ?_, ?_⟩ <;> ((try simp (maxSteps := 1000000) (disch := omega) only [push_cast, go_sem, Nat.reduceEqDiff, ↓reduceIte, reduceCtorEq, Nat.reduceAdd, Nat.reduceSub, Nat.reduceLeDiff, Nat.reduceLT, Int.reduceLT, Int.reduceLE, Int.reduceEq, Int.reduceNeg, Nat.reduceMul, Int.reduceAdd, Int.reduceToNat, *]); (try rfl); (try omega); done)) | fail) ?_) <;> (try simp (maxSteps := 1000000) (disch := omega) only [push_cast, go_sem, Nat.reduceEqDiff, ↓reduceIte, reduceCtorEq, Nat.reduceAdd, Nat.reduceSub, Nat.reduceLeDiff, Nat.reduceLT, Int.reduceLT, Int.reduceLE, Int.reduceEq, Int.reduceNeg, Nat.reduceMul, Int.reduceAdd, Int.reduceToNat, *]))
    | omega)
end Go.Ev

set_option linter.unusedVariables false
set_option linter.unusedSimpArgs false
namespace Go.Ev
set_option maxRecDepth 100000
set_option maxHeartbeats 0
open Go.Proofs
/-- Two tables that tell the same. -/
def Tok (l L : List RecA) (n : Nat) : Prop := SortedK l ∧ l.Perm L ∧ l.length ≤ n
theorem step_is {nx : Int} {l L : List RecA} {n : Nat} (h : Tok l L n) (hn : n ≤ 900) (c : CallA) : ∃ nx' l' L', Tok l' L' (n + 12) ∧
    Spec Try.prog 25 [.optr (.agg [.int .i64 nx, .olst 5 (l.map encA)]) 0, .optr (.agg [.int .i64 nx, .olst 5 (L.map encA)]) 0, .agg [.int .i64 c.kind, .lst false 6 (c.l.map encO), .bool c.fr, .str (ofL c.key), .str (ofL c.to), .int .i64 c.most]] (.bool true)
      [.optr (.agg [.int .i64 nx', .olst 5 (l'.map encA)]) 0, .optr (.agg [.int .i64 nx', .olst 5 (L'.map encA)]) 0, .agg [.int .i64 c.kind, .lst false 6 (c.l.map encO), .bool c.fr, .str (ofL c.key), .str (ofL c.to), .int .i64 c.most]] ∧
    Spec Try.prog 22 [.optr (.agg [.int .i64 nx', .olst 5 (l'.map encA)]) 0, .optr (.agg [.int .i64 nx', .olst 5 (L'.map encA)]) 0] (.bool true) [.optr (.agg [.int .i64 nx', .olst 5 (l'.map encA)]) 0, .optr (.agg [.int .i64 nx', .olst 5 (L'.map encA)]) 0] := by
  obtain ⟨hs, hp, hl⟩ := h
  have hq := callQ_len (nx := nx) (c := c)
  have ha := applyL_len (l := l) (q := callQ nx c)
  have ht : Tok (stepT nx l c) (stepR nx L c) (n + 12) := by
    unfold Tok stepT stepR
    by_cases h : doesQ nx c = true
    · rw [if_pos h, if_pos h]; exact ⟨applyL_sorted hs, perm_apply hs hp, by omega⟩
    · rw [if_neg h, if_neg h]; exact ⟨hs, hp, by omega⟩
  exact ⟨stepN nx c, stepT nx l c, stepR nx L c, ht, step_spec nx c hs hp (by omega), rel_spec _ ht.1 ht.2.1 (by have := ht.2.2; omega)⟩
structure TabS where
  i : Nat
  nx : Int
  l : List RecA
  L : List RecA
structure CopS where
  a : Nat
  b : Nat
  nx : Int
  l : List RecA
  L : List RecA
theorem tables_spec (cs : List CallA) (cut : Int) : Spec Try.prog 7 [.lst false 6 (cs.map encCall), .int .i64 cut] (.bool true) [.lst false 6 (cs.map encCall), .int .i64 cut] := by
  have rel0 := rel_spec 0 (l := []) (L := []) sortedK_nil (List.Perm.refl _) (by simp)
  refine spec_run (P := Try.prog) (f := 7) (fn := Try.f7) (by kernel_rfl) (by kernel_rfl) rfl (by simp [Try.f7]) ?_; simp (maxSteps := 1000000) (disch := omega) only [push_cast, go_sem, Nat.reduceEqDiff, ↓reduceIte, reduceCtorEq, Nat.reduceAdd, Nat.reduceSub, Nat.reduceLeDiff, Nat.reduceLT, Int.reduceLT, Int.reduceLE, Int.reduceEq, Int.reduceNeg, Nat.reduceMul, Int.reduceAdd, Int.reduceToNat, Try.f7, *]
  repeat' (first
    | with_reducible refine And.intro ?_ ?_
    | (with_reducible intro hx; (try simp only [false_dec, true_dec, Int.ofNat_inj, gt_iff_lt, ge_iff_le, decide_eq_true_eq, decide_eq_false_iff_not, Bool.not_eq_true', Bool.not_eq_false', Bool.and_eq_true, Bool.or_eq_false_iff, ne_eq, Classical.not_not] at hx); (first | (exfalso; omega) | (try simp (maxSteps := 1000000) (disch := omega) only [push_cast, go_sem, Nat.reduceEqDiff, ↓reduceIte, reduceCtorEq, Nat.reduceAdd, Nat.reduceSub, Nat.reduceLeDiff, Nat.reduceLT, Int.reduceLT, Int.reduceLE, Int.reduceEq, Int.reduceNeg, Nat.reduceMul, Int.reduceAdd, Int.reduceToNat, *])))
    | (with_reducible refine branch_t ?_; (try simp (maxSteps := 1000000) (disch := omega) only [push_cast, go_sem, Nat.reduceEqDiff, ↓reduceIte, reduceCtorEq, Nat.reduceAdd, Nat.reduceSub, Nat.reduceLeDiff, Nat.reduceLT, Int.reduceLT, Int.reduceLE, Int.reduceEq, Int.reduceNeg, Nat.reduceMul, Int.reduceAdd, Int.reduceToNat, *]))
    | (with_reducible refine branch_f ?_; (try simp (maxSteps := 1000000) (disch := omega) only [push_cast, go_sem, Nat.reduceEqDiff, ↓reduceIte, reduceCtorEq, Nat.reduceAdd, Nat.reduceSub, Nat.reduceLeDiff, Nat.reduceLT, Int.reduceLT, Int.reduceLE, Int.reduceEq, Int.reduceNeg, Nat.reduceMul, Int.reduceAdd, Int.reduceToNat, *]))
    | (with_reducible refine cond_split ?_ ?_)
    | (with_reducible refine guard_split ?_ ?_)
    | ((with_reducible refine drw_open 0 ?_); simp (maxSteps := 1000000) (disch := omega) only [push_cast, go_sem, Nat.reduceEqDiff, ↓reduceIte, reduceCtorEq, Nat.reduceAdd, Nat.reduceSub, Nat.reduceLeDiff, Nat.reduceLT, Int.reduceLT, Int.reduceLE, Int.reduceEq, Int.reduceNeg, Nat.reduceMul, Int.reduceAdd, Int.reduceToNat, *]; (with_reducible refine drw_id ?_))
    | ((with_reducible refine drw_open 1 ?_); simp (maxSteps := 1000000) (disch := omega) only [push_cast, go_sem, Nat.reduceEqDiff, ↓reduceIte, reduceCtorEq, Nat.reduceAdd, Nat.reduceSub, Nat.reduceLeDiff, Nat.reduceLT, Int.reduceLT, Int.reduceLE, Int.reduceEq, Int.reduceNeg, Nat.reduceMul, Int.reduceAdd, Int.reduceToNat, *]; (with_reducible refine drw_id ?_))
    | ((with_reducible refine drw_open 2 ?_); simp (maxSteps := 1000000) (disch := omega) only [push_cast, go_sem, Nat.reduceEqDiff, ↓reduceIte, reduceCtorEq, Nat.reduceAdd, Nat.reduceSub, Nat.reduceLeDiff, Nat.reduceLT, Int.reduceLT, Int.reduceLE, Int.reduceEq, Int.reduceNeg, Nat.reduceMul, Int.reduceAdd, Int.reduceToNat, *]; (with_reducible refine drw_id ?_))
    | ((with_reducible refine drw_intro ?_ ?_); (focus decide +kernel); (try simp (maxSteps := 1000000) (disch := omega) only [push_cast, go_sem, Nat.reduceEqDiff, ↓reduceIte, reduceCtorEq, Nat.reduceAdd, Nat.reduceSub, Nat.reduceLeDiff, Nat.reduceLT, Int.reduceLT, Int.reduceLE, Int.reduceEq, Int.reduceNeg, Nat.reduceMul, Int.reduceAdd, Int.reduceToNat, *]))
    | (with_reducible refine still_split ?_ ?_)
    | ((with_reducible refine call_by2 [] (new_spec) (by first | (refine ⟨?_, ?_, ?_, ?_⟩ <;> ((try simp (maxSteps := 1000000) (disch := omega) only [push_cast, go_sem, Nat.reduceEqDiff, ↓reduceIte, reduceCtorEq, Nat.reduceAdd, Nat.reduceSub, Nat.reduceLeDiff, Nat.reduceLT, Int.reduceLT, Int.reduceLE, Int.reduceEq, Int.reduceNeg, Nat.reduceMul, Int.reduceAdd, Int.reduceToNat, *]); (try rfl); (try omega); done)) | fail) ?_) <;> (try simp (maxSteps := 1000000) (disch := omega) only [push_cast, go_sem, Nat.reduceEqDiff, ↓reduceIte, reduceCtorEq, Nat.reduceAdd, Nat.reduceSub, Nat.reduceLeDiff, Nat.reduceLT, Int.reduceLT, Int.reduceLE, Int.reduceEq, Int.reduceNeg, Nat.reduceMul, Int.reduceAdd, Int.reduceToNat, *]))
    | ((with_reducible refine call_by2 [true, true] (rel0) (by first | (refine ⟨?_, ?_, ?_, ?_⟩ <;> ((try simp (maxSteps := 1000000) (disch := omega) only [push_cast, go_sem, Nat.reduceEqDiff, ↓reduceIte, reduceCtorEq, Nat.reduceAdd, Nat.reduceSub, Nat.reduceLeDiff, Nat.reduceLT, Int.reduceLT, Int.reduceLE, Int.reduceEq, Int.reduceNeg, Nat.reduceMul, Int.reduceAdd, Int.reduceToNat, *]); (try rfl); (try omega); done)) | fail) ?_) <;> (try simp (maxSteps := 1000000) (disch := omega) only [push_cast, go_sem, Nat.reduceEqDiff, ↓reduceIte, reduceCtorEq, Nat.reduceAdd, Nat.reduceSub, Nat.reduceLeDiff, Nat.reduceLT, Int.reduceLT, Int.reduceLE, Int.reduceEq, Int.reduceNeg, Nat.reduceMul, Int.reduceAdd, Int.reduceToNat, *]))
    | omega)
  refine loop_byN (σ := TabS × Option CopS) (fun x N => ([(20, .int .i64 x.1.i), (19, .int .i64 cs.length), (18, .lst false 6 (cs.map encCall)), (9, .bool true), (8, match x.2 with | none => .nilp | some y => .loc y.b 0), (7, match x.2 with | none => .nilp | some y => .loc y.a 0),
        (6, .loc 2 0), (5, .loc 0 0), (0, .lst false 6 (cs.map encCall)), (1, .int .i64 cut)],
      (2, .obj (.agg [.int .i64 x.1.nx, .olst 5 (x.1.L.map encA)])) :: (0, .obj (.agg [.int .i64 x.1.nx, .olst 5 (x.1.l.map encA)])) ::
        match x.2 with | none => [] | some y => [(y.b, .obj (.agg [.int .i64 y.nx, .olst 5 (y.L.map encA)])), (y.a, .obj (.agg [.int .i64 y.nx, .olst 5 (y.l.map encA)]))]))
    (fun x N => x.1.i ≤ cs.length ∧ x.1.i ≤ 30 ∧ Tok x.1.l x.1.L (12 * x.1.i) ∧ ∀ y, x.2 = some y → y.a ≠ y.b ∧ 2 < y.a ∧ 2 < y.b ∧ y.a < N ∧ y.b < N ∧ Tok y.l y.L (12 * x.1.i)) (fun x => cs.length - x.1.i) (⟨0, 0, [], []⟩, none) _
    ⟨by simp, by simp, ⟨sortedK_nil, List.Perm.refl _, by simp⟩, by simp⟩ (by simp (maxSteps := 1000000) (disch := omega) only [push_cast, go_sem, Nat.reduceEqDiff, ↓reduceIte, reduceCtorEq, Nat.reduceAdd, Nat.reduceSub, Nat.reduceLeDiff, Nat.reduceLT, Int.reduceLT, Int.reduceLE, Int.reduceEq, Int.reduceNeg, Nat.reduceMul, Int.reduceAdd, Int.reduceToNat, *]) (by simp (maxSteps := 1000000) (disch := omega) only [push_cast, go_sem, Nat.reduceEqDiff, ↓reduceIte, reduceCtorEq, Nat.reduceAdd, Nat.reduceSub, Nat.reduceLeDiff, Nat.reduceLT, Int.reduceLT, Int.reduceLE, Int.reduceEq, Int.reduceNeg, Nat.reduceMul, Int.reduceAdd, Int.reduceToNat, *] <;> simp) (Nat.le_refl _) ?_
  rintro ⟨⟨i, nx, l, L⟩, c⟩ N hN ⟨hi, hi30, ht, hc⟩
  dsimp only at hi hi30 ht hc
  cases c with
  | none =>
    clear hc
    dsimp only
    by_cases hlt : i < cs.length ∧ i < 30
    · obtain ⟨hlt, hi3⟩ := hlt
      obtain ⟨nx', l', L', ht', st, re⟩ := step_is (nx := nx) ht (by omega) cs[i]
      have cp := copy_spec nx l (by have := ht.2.2; omega)
      have rcp := rcopy_spec nx L (by have := ht.2.2; have := ht.2.1.length_eq; omega)
      have re0 := rel_spec nx ht.1 ht.2.1 (by have := ht.2.2; omega)
      have rs1 := rsame_spec nx' nx' ht'.1 ht'.2.1 (by have := ht'.2.2; omega) ht'.1 ht'.2.1 (by have := ht'.2.2; omega)
      have rs2 := rsame_spec nx nx' ht.1 ht.2.1 (by have := ht.2.2; omega) ht'.1 ht'.2.1 (by have := ht'.2.2; omega)
      have hT : Tok l L (12 * (i + 1)) := ⟨ht.1, ht.2.1, by have := ht.2.2; omega⟩
      have hT' : Tok l' L' (12 * (i + 1)) := ⟨ht'.1, ht'.2.1, by have := ht'.2.2; omega⟩
      simp (maxSteps := 1000000) (disch := omega) only [push_cast, go_sem, Nat.reduceEqDiff, ↓reduceIte, reduceCtorEq, Nat.reduceAdd, Nat.reduceSub, Nat.reduceLeDiff, Nat.reduceLT, Int.reduceLT, Int.reduceLE, Int.reduceEq, Int.reduceNeg, Nat.reduceMul, Int.reduceAdd, Int.reduceToNat, *]
      repeat' (first
    | with_reducible refine And.intro ?_ ?_
    | (with_reducible intro hx; (try simp only [false_dec, true_dec, Int.ofNat_inj, gt_iff_lt, ge_iff_le, decide_eq_true_eq, decide_eq_false_iff_not, Bool.not_eq_true', Bool.not_eq_false', Bool.and_eq_true, Bool.or_eq_false_iff, ne_eq, Classical.not_not] at hx); (first | (exfalso; omega) | (try simp (maxSteps := 1000000) (disch := omega) only [push_cast, go_sem, Nat.reduceEqDiff, ↓reduceIte, reduceCtorEq, Nat.reduceAdd, Nat.reduceSub, Nat.reduceLeDiff, Nat.reduceLT, Int.reduceLT, Int.reduceLE, Int.reduceEq, Int.reduceNeg, Nat.reduceMul, Int.reduceAdd, Int.reduceToNat, *])))
    | (with_reducible refine branch_t ?_; (try simp (maxSteps := 1000000) (disch := omega) only [push_cast, go_sem, Nat.reduceEqDiff, ↓reduceIte, reduceCtorEq, Nat.reduceAdd, Nat.reduceSub, Nat.reduceLeDiff, Nat.reduceLT, Int.reduceLT, Int.reduceLE, Int.reduceEq, Int.reduceNeg, Nat.reduceMul, Int.reduceAdd, Int.reduceToNat, *]))
    | (with_reducible refine branch_f ?_; (try simp (maxSteps := 1000000) (disch := omega) only [push_cast, go_sem, Nat.reduceEqDiff, ↓reduceIte, reduceCtorEq, Nat.reduceAdd, Nat.reduceSub, Nat.reduceLeDiff, Nat.reduceLT, Int.reduceLT, Int.reduceLE, Int.reduceEq, Int.reduceNeg, Nat.reduceMul, Int.reduceAdd, Int.reduceToNat, *]))
    | (with_reducible refine cond_split ?_ ?_)
    | (with_reducible refine guard_split ?_ ?_)
    | ((with_reducible refine drw_open 0 ?_); simp (maxSteps := 1000000) (disch := omega) only [push_cast, go_sem, Nat.reduceEqDiff, ↓reduceIte, reduceCtorEq, Nat.reduceAdd, Nat.reduceSub, Nat.reduceLeDiff, Nat.reduceLT, Int.reduceLT, Int.reduceLE, Int.reduceEq, Int.reduceNeg, Nat.reduceMul, Int.reduceAdd, Int.reduceToNat, *]; (with_reducible refine drw_id ?_))
    | ((with_reducible refine drw_open 1 ?_); simp (maxSteps := 1000000) (disch := omega) only [push_cast, go_sem, Nat.reduceEqDiff, ↓reduceIte, reduceCtorEq, Nat.reduceAdd, Nat.reduceSub, Nat.reduceLeDiff, Nat.reduceLT, Int.reduceLT, Int.reduceLE, Int.reduceEq, Int.reduceNeg, Nat.reduceMul, Int.reduceAdd, Int.reduceToNat, *]; (with_reducible refine drw_id ?_))
    | ((with_reducible refine drw_open 2 ?_); simp (maxSteps := 1000000) (disch := omega) only [push_cast, go_sem, Nat.reduceEqDiff, ↓reduceIte, reduceCtorEq, Nat.reduceAdd, Nat.reduceSub, Nat.reduceLeDiff, Nat.reduceLT, Int.reduceLT, Int.reduceLE, Int.reduceEq, Int.reduceNeg, Nat.reduceMul, Int.reduceAdd, Int.reduceToNat, *]; (with_reducible refine drw_id ?_))
    | ((with_reducible refine drw_intro ?_ ?_); (focus decide +kernel); (try simp (maxSteps := 1000000) (disch := omega) only [push_cast, go_sem, Nat.reduceEqDiff, ↓reduceIte, reduceCtorEq, Nat.reduceAdd, Nat.reduceSub, Nat.reduceLeDiff, Nat.reduceLT, Int.reduceLT, Int.reduceLE, Int.reduceEq, Int.reduceNeg, Nat.reduceMul, Int.reduceAdd, Int.reduceToNat, *]))
    | (with_reducible refine still_split ?_ ?_)
    | ((with_reducible refine call_by2 [true] (cp) (by first | (refine ⟨?_, ?_, ?_, ?_⟩ <;> ((try simp (maxSteps := 1000000) (disch := omega) only [push_cast, go_sem, Nat.reduceEqDiff, ↓reduceIte, reduceCtorEq, Nat.reduceAdd, Nat.reduceSub, Nat.reduceLeDiff, Nat.reduceLT, Int.reduceLT, Int.reduceLE, Int.reduceEq, Int.reduceNeg, Nat.reduceMul, Int.reduceAdd, Int.reduceToNat, *]); (try rfl); (try omega); done)) | fail) ?_) <;> (try simp (maxSteps := 1000000) (disch := omega) only [push_cast, go_sem, Nat.reduceEqDiff, ↓reduceIte, reduceCtorEq, Nat.reduceAdd, Nat.reduceSub, Nat.reduceLeDiff, Nat.reduceLT, Int.reduceLT, Int.reduceLE, Int.reduceEq, Int.reduceNeg, Nat.reduceMul, Int.reduceAdd, Int.reduceToNat, *]))
    | ((with_reducible refine call_by2 [true] (rcp) (by first | (refine ⟨?_, ?_, ?_, ?_⟩ <;> ((try simp (maxSteps := 1000000) (disch := omega) only [push_cast, go_sem, Nat.reduceEqDiff, ↓reduceIte, reduceCtorEq, Nat.reduceAdd, Nat.reduceSub, Nat.reduceLeDiff, Nat.reduceLT, Int.reduceLT, Int.reduceLE, Int.reduceEq, Int.reduceNeg, Nat.reduceMul, Int.reduceAdd, Int.reduceToNat, *]); (try rfl); (try omega); done)) | fail) ?_) <;> (try simp (maxSteps := 1000000) (disch := omega) only [push_cast, go_sem, Nat.reduceEqDiff, ↓reduceIte, reduceCtorEq, Nat.reduceAdd, Nat.reduceSub, Nat.reduceLeDiff, Nat.reduceLT, Int.reduceLT, Int.reduceLE, Int.reduceEq, Int.reduceNeg, Nat.reduceMul, Int.reduceAdd, Int.reduceToNat, *]))
    | ((with_reducible refine call_by2 [true, true] (re0) (by first | (refine ⟨?_, ?_, ?_, ?_⟩ <;> ((try simp (maxSteps := 1000000) (disch := omega) only [push_cast, go_sem, Nat.reduceEqDiff, ↓reduceIte, reduceCtorEq, Nat.reduceAdd, Nat.reduceSub, Nat.reduceLeDiff, Nat.reduceLT, Int.reduceLT, Int.reduceLE, Int.reduceEq, Int.reduceNeg, Nat.reduceMul, Int.reduceAdd, Int.reduceToNat, *]); (try rfl); (try omega); done)) | fail) ?_) <;> (try simp (maxSteps := 1000000) (disch := omega) only [push_cast, go_sem, Nat.reduceEqDiff, ↓reduceIte, reduceCtorEq, Nat.reduceAdd, Nat.reduceSub, Nat.reduceLeDiff, Nat.reduceLT, Int.reduceLT, Int.reduceLE, Int.reduceEq, Int.reduceNeg, Nat.reduceMul, Int.reduceAdd, Int.reduceToNat, *]))
    | ((with_reducible refine call_by2 [true, true] (tsame_spec _ _ _ _) (by first | (refine ⟨?_, ?_, ?_, ?_⟩ <;> ((try simp (maxSteps := 1000000) (disch := omega) only [push_cast, go_sem, Nat.reduceEqDiff, ↓reduceIte, reduceCtorEq, Nat.reduceAdd, Nat.reduceSub, Nat.reduceLeDiff, Nat.reduceLT, Int.reduceLT, Int.reduceLE, Int.reduceEq, Int.reduceNeg, Nat.reduceMul, Int.reduceAdd, Int.reduceToNat, *]); (try rfl); (try omega); done)) | fail) ?_) <;> (try simp (maxSteps := 1000000) (disch := omega) only [push_cast, go_sem, Nat.reduceEqDiff, ↓reduceIte, reduceCtorEq, Nat.reduceAdd, Nat.reduceSub, Nat.reduceLeDiff, Nat.reduceLT, Int.reduceLT, Int.reduceLE, Int.reduceEq, Int.reduceNeg, Nat.reduceMul, Int.reduceAdd, Int.reduceToNat, *]))
    | ((with_reducible refine call_by2 [true, true] (st) (by first | (refine ⟨?_, ?_, ?_, ?_⟩ <;> ((try simp (maxSteps := 1000000) (disch := omega) only [push_cast, go_sem, Nat.reduceEqDiff, ↓reduceIte, reduceCtorEq, Nat.reduceAdd, Nat.reduceSub, Nat.reduceLeDiff, Nat.reduceLT, Int.reduceLT, Int.reduceLE, Int.reduceEq, Int.reduceNeg, Nat.reduceMul, Int.reduceAdd, Int.reduceToNat, *]); (try rfl); (try omega); done)) | fail) ?_) <;> (try simp (maxSteps := 1000000) (disch := omega) only [push_cast, go_sem, Nat.reduceEqDiff, ↓reduceIte, reduceCtorEq, Nat.reduceAdd, Nat.reduceSub, Nat.reduceLeDiff, Nat.reduceLT, Int.reduceLT, Int.reduceLE, Int.reduceEq, Int.reduceNeg, Nat.reduceMul, Int.reduceAdd, Int.reduceToNat, *]))
    | ((with_reducible refine call_by2 [true, true] (re) (by first | (refine ⟨?_, ?_, ?_, ?_⟩ <;> ((try simp (maxSteps := 1000000) (disch := omega) only [push_cast, go_sem, Nat.reduceEqDiff, ↓reduceIte, reduceCtorEq, Nat.reduceAdd, Nat.reduceSub, Nat.reduceLeDiff, Nat.reduceLT, Int.reduceLT, Int.reduceLE, Int.reduceEq, Int.reduceNeg, Nat.reduceMul, Int.reduceAdd, Int.reduceToNat, *]); (try rfl); (try omega); done)) | fail) ?_) <;> (try simp (maxSteps := 1000000) (disch := omega) only [push_cast, go_sem, Nat.reduceEqDiff, ↓reduceIte, reduceCtorEq, Nat.reduceAdd, Nat.reduceSub, Nat.reduceLeDiff, Nat.reduceLT, Int.reduceLT, Int.reduceLE, Int.reduceEq, Int.reduceNeg, Nat.reduceMul, Int.reduceAdd, Int.reduceToNat, *]))
    | ((with_reducible refine call_by2 [true, true] (rs1) (by first | (refine ⟨?_, ?_, ?_, ?_⟩ <;> ((try simp (maxSteps := 1000000) (disch := omega) only [push_cast, go_sem, Nat.reduceEqDiff, ↓reduceIte, reduceCtorEq, Nat.reduceAdd, Nat.reduceSub, Nat.reduceLeDiff, Nat.reduceLT, Int.reduceLT, Int.reduceLE, Int.reduceEq, Int.reduceNeg, Nat.reduceMul, Int.reduceAdd, Int.reduceToNat, *]); (try rfl); (try omega); done)) | fail) ?_) <;> (try simp (maxSteps := 1000000) (disch := omega) only [push_cast, go_sem, Nat.reduceEqDiff, ↓reduceIte, reduceCtorEq, Nat.reduceAdd, Nat.reduceSub, Nat.reduceLeDiff, Nat.reduceLT, Int.reduceLT, Int.reduceLE, Int.reduceEq, Int.reduceNeg, Nat.reduceMul, Int.reduceAdd, Int.reduceToNat, *]))
    | ((with_reducible refine call_by2 [true, true] (rs2) (by first | (refine ⟨?_, ?_, ?_, ?_⟩ <;> ((try simp (maxSteps := 1000000) (disch := omega) only [push_cast, go_sem, Nat.reduceEqDiff, ↓reduceIte, reduceCtorEq, Nat.reduceAdd, Nat.reduceSub, Nat.reduceLeDiff, Nat.reduceLT, Int.reduceLT, Int.reduceLE, Int.reduceEq, Int.reduceNeg, Nat.reduceMul, Int.reduceAdd, Int.reduceToNat, *]); (try rfl); (try omega); done)) | fail) ?_) <;> (try simp (maxSteps := 1000000) (disch := omega) only [push_cast, go_sem, Nat.reduceEqDiff, ↓reduceIte, reduceCtorEq, Nat.reduceAdd, Nat.reduceSub, Nat.reduceLeDiff, Nat.reduceLT, Int.reduceLT, Int.reduceLE, Int.reduceEq, Int.reduceNeg, Nat.reduceMul, Int.reduceAdd, Int.reduceToNat, *]))
    | omega)
      · refine loop_endN (⟨i + 1, nx', l', L'⟩, some ⟨N + 1, N + 1 + 1, nx', l', L'⟩) _ (by omega) ⟨by dsimp only; omega, by dsimp only; omega, hT', fun y h => by cases h; exact ⟨by dsimp only; omega, by dsimp only; omega, by dsimp only; omega, by dsimp only; omega, by dsimp only; omega, hT'⟩⟩ (by dsimp only; omega) (by dsimp only; simp (maxSteps := 1000000) (disch := omega) only [push_cast, go_sem, Nat.reduceEqDiff, ↓reduceIte, reduceCtorEq, Nat.reduceAdd, Nat.reduceSub, Nat.reduceLeDiff, Nat.reduceLT, Int.reduceLT, Int.reduceLE, Int.reduceEq, Int.reduceNeg, Nat.reduceMul, Int.reduceAdd, Int.reduceToNat, *]) (by dsimp only; simp (maxSteps := 1000000) (disch := omega) only [push_cast, go_sem, Nat.reduceEqDiff, ↓reduceIte, reduceCtorEq, Nat.reduceAdd, Nat.reduceSub, Nat.reduceLeDiff, Nat.reduceLT, Int.reduceLT, Int.reduceLE, Int.reduceEq, Int.reduceNeg, Nat.reduceMul, Int.reduceAdd, Int.reduceToNat, *]) (Nat.le_refl _)
      · refine loop_endN (⟨i + 1, nx', l', L'⟩, some ⟨N + 1, N + 1 + 1, nx, l, L⟩) _ (by omega) ⟨by dsimp only; omega, by dsimp only; omega, hT', fun y h => by cases h; exact ⟨by dsimp only; omega, by dsimp only; omega, by dsimp only; omega, by dsimp only; omega, by dsimp only; omega, hT⟩⟩ (by dsimp only; omega) (by dsimp only; simp (maxSteps := 1000000) (disch := omega) only [push_cast, go_sem, Nat.reduceEqDiff, ↓reduceIte, reduceCtorEq, Nat.reduceAdd, Nat.reduceSub, Nat.reduceLeDiff, Nat.reduceLT, Int.reduceLT, Int.reduceLE, Int.reduceEq, Int.reduceNeg, Nat.reduceMul, Int.reduceAdd, Int.reduceToNat, *]) (by dsimp only; simp (maxSteps := 1000000) (disch := omega) only [push_cast, go_sem, Nat.reduceEqDiff, ↓reduceIte, reduceCtorEq, Nat.reduceAdd, Nat.reduceSub, Nat.reduceLeDiff, Nat.reduceLT, Int.reduceLT, Int.reduceLE, Int.reduceEq, Int.reduceNeg, Nat.reduceMul, Int.reduceAdd, Int.reduceToNat, *]) (Nat.le_refl _)
      · refine loop_endN (⟨i + 1, nx', l', L'⟩, none) _ (by omega) ⟨by dsimp only; omega, by dsimp only; omega, hT', fun y h => by cases h⟩ (by dsimp only; omega) (by dsimp only; simp (maxSteps := 1000000) (disch := omega) only [push_cast, go_sem, Nat.reduceEqDiff, ↓reduceIte, reduceCtorEq, Nat.reduceAdd, Nat.reduceSub, Nat.reduceLeDiff, Nat.reduceLT, Int.reduceLT, Int.reduceLE, Int.reduceEq, Int.reduceNeg, Nat.reduceMul, Int.reduceAdd, Int.reduceToNat, *]) (by dsimp only; simp (maxSteps := 1000000) (disch := omega) only [push_cast, go_sem, Nat.reduceEqDiff, ↓reduceIte, reduceCtorEq, Nat.reduceAdd, Nat.reduceSub, Nat.reduceLeDiff, Nat.reduceLT, Int.reduceLT, Int.reduceLE, Int.reduceEq, Int.reduceNeg, Nat.reduceMul, Int.reduceAdd, Int.reduceToNat, *]) (Nat.le_refl _)
    · simp (maxSteps := 1000000) (disch := omega) only [push_cast, go_sem, Nat.reduceEqDiff, ↓reduceIte, reduceCtorEq, Nat.reduceAdd, Nat.reduceSub, Nat.reduceLeDiff, Nat.reduceLT, Int.reduceLT, Int.reduceLE, Int.reduceEq, Int.reduceNeg, Nat.reduceMul, Int.reduceAdd, Int.reduceToNat, *]
      repeat' (first
    | with_reducible refine And.intro ?_ ?_
    | (with_reducible intro hx; (try simp only [false_dec, true_dec, Int.ofNat_inj, gt_iff_lt, ge_iff_le, decide_eq_true_eq, decide_eq_false_iff_not, Bool.not_eq_true', Bool.not_eq_false', Bool.and_eq_true, Bool.or_eq_false_iff, ne_eq, Classical.not_not] at hx); (first | (exfalso; omega) | (try simp (maxSteps := 1000000) (disch := omega) only [push_cast, go_sem, Nat.reduceEqDiff, ↓reduceIte, reduceCtorEq, Nat.reduceAdd, Nat.reduceSub, Nat.reduceLeDiff, Nat.reduceLT, Int.reduceLT, Int.reduceLE, Int.reduceEq, Int.reduceNeg, Nat.reduceMul, Int.reduceAdd, Int.reduceToNat, *])))
    | (with_reducible refine branch_t ?_; (try simp (maxSteps := 1000000) (disch := omega) only [push_cast, go_sem, Nat.reduceEqDiff, ↓reduceIte, reduceCtorEq, Nat.reduceAdd, Nat.reduceSub, Nat.reduceLeDiff, Nat.reduceLT, Int.reduceLT, Int.reduceLE, Int.reduceEq, Int.reduceNeg, Nat.reduceMul, Int.reduceAdd, Int.reduceToNat, *]))
    | (with_reducible refine branch_f ?_; (try simp (maxSteps := 1000000) (disch := omega) only [push_cast, go_sem, Nat.reduceEqDiff, ↓reduceIte, reduceCtorEq, Nat.reduceAdd, Nat.reduceSub, Nat.reduceLeDiff, Nat.reduceLT, Int.reduceLT, Int.reduceLE, Int.reduceEq, Int.reduceNeg, Nat.reduceMul, Int.reduceAdd, Int.reduceToNat, *]))
    | (with_reducible refine cond_split ?_ ?_)
    | (with_reducible refine guard_split ?_ ?_)
    | ((with_reducible refine drw_open 0 ?_); simp (maxSteps := 1000000) (disch := omega) only [push_cast, go_sem, Nat.reduceEqDiff, ↓reduceIte, reduceCtorEq, Nat.reduceAdd, Nat.reduceSub, Nat.reduceLeDiff, Nat.reduceLT, Int.reduceLT, Int.reduceLE, Int.reduceEq, Int.reduceNeg, Nat.reduceMul, Int.reduceAdd, Int.reduceToNat, *]; (with_reducible refine drw_id ?_))
    | ((with_reducible refine drw_open 1 ?_); simp (maxSteps := 1000000) (disch := omega) only [push_cast, go_sem, Nat.reduceEqDiff, ↓reduceIte, reduceCtorEq, Nat.reduceAdd, Nat.reduceSub, Nat.reduceLeDiff, Nat.reduceLT, Int.reduceLT, Int.reduceLE, Int.reduceEq, Int.reduceNeg, Nat.reduceMul, Int.reduceAdd, Int.reduceToNat, *]; (with_reducible refine drw_id ?_))
    | ((with_reducible refine drw_open 2 ?_); simp (maxSteps := 1000000) (disch := omega) only [push_cast, go_sem, Nat.reduceEqDiff, ↓reduceIte, reduceCtorEq, Nat.reduceAdd, Nat.reduceSub, Nat.reduceLeDiff, Nat.reduceLT, Int.reduceLT, Int.reduceLE, Int.reduceEq, Int.reduceNeg, Nat.reduceMul, Int.reduceAdd, Int.reduceToNat, *]; (with_reducible refine drw_id ?_))
    | ((with_reducible refine drw_intro ?_ ?_); (focus decide +kernel); (try simp (maxSteps := 1000000) (disch := omega) only [push_cast, go_sem, Nat.reduceEqDiff, ↓reduceIte, reduceCtorEq, Nat.reduceAdd, Nat.reduceSub, Nat.reduceLeDiff, Nat.reduceLT, Int.reduceLT, Int.reduceLE, Int.reduceEq, Int.reduceNeg, Nat.reduceMul, Int.reduceAdd, Int.reduceToNat, *]))
    | (with_reducible refine still_split ?_ ?_)
    | ((with_reducible refine call_by2 [] (awake_spec) (by first | (refine ⟨?_, ?_, ?_, ?_⟩ <;> ((try simp (maxSteps := 1000000) (disch := omega) only [push_cast, go_sem, Nat.reduceEqDiff, ↓reduceIte, reduceCtorEq, Nat.reduceAdd, Nat.reduceSub, Nat.reduceLeDiff, Nat.reduceLT, Int.reduceLT, Int.reduceLE, Int.reduceEq, Int.reduceNeg, Nat.reduceMul, Int.reduceAdd, Int.reduceToNat, *]); (try rfl); (try omega); done)) | fail) ?_) <;> (try simp (maxSteps := 1000000) (disch := omega) only [push_cast, go_sem, Nat.reduceEqDiff, ↓reduceIte, reduceCtorEq, Nat.reduceAdd, Nat.reduceSub, Nat.reduceLeDiff, Nat.reduceLT, Int.reduceLT, Int.reduceLE, Int.reduceEq, Int.reduceNeg, Nat.reduceMul, Int.reduceAdd, Int.reduceToNat, *]))
    | omega)
  | some y =>
    obtain ⟨a, b, ny, m, M⟩ := y
    obtain ⟨hab, ha2, hb2, haN, hbN, hm⟩ := hc _ rfl
    dsimp only at hab ha2 hb2 haN hbN hm
    clear hc
    dsimp only
    by_cases hlt : i < cs.length ∧ i < 30
    · obtain ⟨hlt, hi3⟩ := hlt
      obtain ⟨nx', l', L', ht', st, re⟩ := step_is (nx := nx) ht (by omega) cs[i]
      obtain ⟨ny', m', M', hm', stc, rec'⟩ := step_is (nx := ny) hm (by omega) cs[i]
      have cp := copy_spec nx l (by have := ht.2.2; omega)
      have rcp := rcopy_spec nx L (by have := ht.2.2; have := ht.2.1.length_eq; omega)
      have re0 := rel_spec nx ht.1 ht.2.1 (by have := ht.2.2; omega)
      have rs1 := rsame_spec nx' nx' ht'.1 ht'.2.1 (by have := ht'.2.2; omega) ht'.1 ht'.2.1 (by have := ht'.2.2; omega)
      have rs2 := rsame_spec nx nx' ht.1 ht.2.1 (by have := ht.2.2; omega) ht'.1 ht'.2.1 (by have := ht'.2.2; omega)
      have rs3 := rsame_spec ny' nx' hm'.1 hm'.2.1 (by have := hm'.2.2; omega) ht'.1 ht'.2.1 (by have := ht'.2.2; omega)
      have rs4 := rsame_spec ny nx' hm.1 hm.2.1 (by have := hm.2.2; omega) ht'.1 ht'.2.1 (by have := ht'.2.2; omega)
      have hT : Tok l L (12 * (i + 1)) := ⟨ht.1, ht.2.1, by have := ht.2.2; omega⟩
      have hT' : Tok l' L' (12 * (i + 1)) := ⟨ht'.1, ht'.2.1, by have := ht'.2.2; omega⟩
      have hM : Tok m M (12 * (i + 1)) := ⟨hm.1, hm.2.1, by have := hm.2.2; omega⟩
      have hM' : Tok m' M' (12 * (i + 1)) := ⟨hm'.1, hm'.2.1, by have := hm'.2.2; omega⟩
      simp (maxSteps := 1000000) (disch := omega) only [push_cast, go_sem, Nat.reduceEqDiff, ↓reduceIte, reduceCtorEq, Nat.reduceAdd, Nat.reduceSub, Nat.reduceLeDiff, Nat.reduceLT, Int.reduceLT, Int.reduceLE, Int.reduceEq, Int.reduceNeg, Nat.reduceMul, Int.reduceAdd, Int.reduceToNat, *]
      repeat' (first
    | with_reducible refine And.intro ?_ ?_
    | (with_reducible intro hx; (try simp only [false_dec, true_dec, Int.ofNat_inj, gt_iff_lt, ge_iff_le, decide_eq_true_eq, decide_eq_false_iff_not, Bool.not_eq_true', Bool.not_eq_false', Bool.and_eq_true, Bool.or_eq_false_iff, ne_eq, Classical.not_not] at hx); (first | (exfalso; omega) | (try simp (maxSteps := 1000000) (disch := omega) only [push_cast, go_sem, Nat.reduceEqDiff, ↓reduceIte, reduceCtorEq, Nat.reduceAdd, Nat.reduceSub, Nat.reduceLeDiff, Nat.reduceLT, Int.reduceLT, Int.reduceLE, Int.reduceEq, Int.reduceNeg, Nat.reduceMul, Int.reduceAdd, Int.reduceToNat, *])))
    | (with_reducible refine branch_t ?_; (try simp (maxSteps := 1000000) (disch := omega) only [push_cast, go_sem, Nat.reduceEqDiff, ↓reduceIte, reduceCtorEq, Nat.reduceAdd, Nat.reduceSub, Nat.reduceLeDiff, Nat.reduceLT, Int.reduceLT, Int.reduceLE, Int.reduceEq, Int.reduceNeg, Nat.reduceMul, Int.reduceAdd, Int.reduceToNat, *]))
    | (with_reducible refine branch_f ?_; (try simp (maxSteps := 1000000) (disch := omega) only [push_cast, go_sem, Nat.reduceEqDiff, ↓reduceIte, reduceCtorEq, Nat.reduceAdd, Nat.reduceSub, Nat.reduceLeDiff, Nat.reduceLT, Int.reduceLT, Int.reduceLE, Int.reduceEq, Int.reduceNeg, Nat.reduceMul, Int.reduceAdd, Int.reduceToNat, *]))
    | (with_reducible refine cond_split ?_ ?_)
    | (with_reducible refine guard_split ?_ ?_)
    | ((with_reducible refine drw_open 0 ?_); simp (maxSteps := 1000000) (disch := omega) only [push_cast, go_sem, Nat.reduceEqDiff, ↓reduceIte, reduceCtorEq, Nat.reduceAdd, Nat.reduceSub, Nat.reduceLeDiff, Nat.reduceLT, Int.reduceLT, Int.reduceLE, Int.reduceEq, Int.reduceNeg, Nat.reduceMul, Int.reduceAdd, Int.reduceToNat, *]; (with_reducible refine drw_id ?_))
    | ((with_reducible refine drw_open 1 ?_); simp (maxSteps := 1000000) (disch := omega) only [push_cast, go_sem, Nat.reduceEqDiff, ↓reduceIte, reduceCtorEq, Nat.reduceAdd, Nat.reduceSub, Nat.reduceLeDiff, Nat.reduceLT, Int.reduceLT, Int.reduceLE, Int.reduceEq, Int.reduceNeg, Nat.reduceMul, Int.reduceAdd, Int.reduceToNat, *]; (with_reducible refine drw_id ?_))
    | ((with_reducible refine drw_open 2 ?_); simp (maxSteps := 1000000) (disch := omega) only [push_cast, go_sem, Nat.reduceEqDiff, ↓reduceIte, reduceCtorEq, Nat.reduceAdd, Nat.reduceSub, Nat.reduceLeDiff, Nat.reduceLT, Int.reduceLT, Int.reduceLE, Int.reduceEq, Int.reduceNeg, Nat.reduceMul, Int.reduceAdd, Int.reduceToNat, *]; (with_reducible refine drw_id ?_))
    | ((with_reducible refine drw_intro ?_ ?_); (focus decide +kernel); (try simp (maxSteps := 1000000) (disch := omega) only [push_cast, go_sem, Nat.reduceEqDiff, ↓reduceIte, reduceCtorEq, Nat.reduceAdd, Nat.reduceSub, Nat.reduceLeDiff, Nat.reduceLT, Int.reduceLT, Int.reduceLE, Int.reduceEq, Int.reduceNeg, Nat.reduceMul, Int.reduceAdd, Int.reduceToNat, *]))
    | (with_reducible refine still_split ?_ ?_)
    | ((with_reducible refine call_by2 [true] (cp) (by first | (refine ⟨?_, ?_, ?_, ?_⟩ <;> ((try simp (maxSteps := 1000000) (disch := omega) only [push_cast, go_sem, Nat.reduceEqDiff, ↓reduceIte, reduceCtorEq, Nat.reduceAdd, Nat.reduceSub, Nat.reduceLeDiff, Nat.reduceLT, Int.reduceLT, Int.reduceLE, Int.reduceEq, Int.reduceNeg, Nat.reduceMul, Int.reduceAdd, Int.reduceToNat, *]); (try rfl); (try omega); done)) | fail) ?_) <;> (try simp (maxSteps := 1000000) (disch := omega) only [push_cast, go_sem, Nat.reduceEqDiff, ↓reduceIte, reduceCtorEq, Nat.reduceAdd, Nat.reduceSub, Nat.reduceLeDiff, Nat.reduceLT, Int.reduceLT, Int.reduceLE, Int.reduceEq, Int.reduceNeg, Nat.reduceMul, Int.reduceAdd, Int.reduceToNat, *]))
    | ((with_reducible refine call_by2 [true] (rcp) (by first | (refine ⟨?_, ?_, ?_, ?_⟩ <;> ((try simp (maxSteps := 1000000) (disch := omega) only [push_cast, go_sem, Nat.reduceEqDiff, ↓reduceIte, reduceCtorEq, Nat.reduceAdd, Nat.reduceSub, Nat.reduceLeDiff, Nat.reduceLT, Int.reduceLT, Int.reduceLE, Int.reduceEq, Int.reduceNeg, Nat.reduceMul, Int.reduceAdd, Int.reduceToNat, *]); (try rfl); (try omega); done)) | fail) ?_) <;> (try simp (maxSteps := 1000000) (disch := omega) only [push_cast, go_sem, Nat.reduceEqDiff, ↓reduceIte, reduceCtorEq, Nat.reduceAdd, Nat.reduceSub, Nat.reduceLeDiff, Nat.reduceLT, Int.reduceLT, Int.reduceLE, Int.reduceEq, Int.reduceNeg, Nat.reduceMul, Int.reduceAdd, Int.reduceToNat, *]))
    | ((with_reducible refine call_by2 [true, true] (re0) (by first | (refine ⟨?_, ?_, ?_, ?_⟩ <;> ((try simp (maxSteps := 1000000) (disch := omega) only [push_cast, go_sem, Nat.reduceEqDiff, ↓reduceIte, reduceCtorEq, Nat.reduceAdd, Nat.reduceSub, Nat.reduceLeDiff, Nat.reduceLT, Int.reduceLT, Int.reduceLE, Int.reduceEq, Int.reduceNeg, Nat.reduceMul, Int.reduceAdd, Int.reduceToNat, *]); (try rfl); (try omega); done)) | fail) ?_) <;> (try simp (maxSteps := 1000000) (disch := omega) only [push_cast, go_sem, Nat.reduceEqDiff, ↓reduceIte, reduceCtorEq, Nat.reduceAdd, Nat.reduceSub, Nat.reduceLeDiff, Nat.reduceLT, Int.reduceLT, Int.reduceLE, Int.reduceEq, Int.reduceNeg, Nat.reduceMul, Int.reduceAdd, Int.reduceToNat, *]))
    | ((with_reducible refine call_by2 [true, true] (tsame_spec _ _ _ _) (by first | (refine ⟨?_, ?_, ?_, ?_⟩ <;> ((try simp (maxSteps := 1000000) (disch := omega) only [push_cast, go_sem, Nat.reduceEqDiff, ↓reduceIte, reduceCtorEq, Nat.reduceAdd, Nat.reduceSub, Nat.reduceLeDiff, Nat.reduceLT, Int.reduceLT, Int.reduceLE, Int.reduceEq, Int.reduceNeg, Nat.reduceMul, Int.reduceAdd, Int.reduceToNat, *]); (try rfl); (try omega); done)) | fail) ?_) <;> (try simp (maxSteps := 1000000) (disch := omega) only [push_cast, go_sem, Nat.reduceEqDiff, ↓reduceIte, reduceCtorEq, Nat.reduceAdd, Nat.reduceSub, Nat.reduceLeDiff, Nat.reduceLT, Int.reduceLT, Int.reduceLE, Int.reduceEq, Int.reduceNeg, Nat.reduceMul, Int.reduceAdd, Int.reduceToNat, *]))
    | ((with_reducible refine call_by2 [true, true] (st) (by first | (refine ⟨?_, ?_, ?_, ?_⟩ <;> ((try simp (maxSteps := 1000000) (disch := omega) only [push_cast, go_sem, Nat.reduceEqDiff, ↓reduceIte, reduceCtorEq, Nat.reduceAdd, Nat.reduceSub, Nat.reduceLeDiff, Nat.reduceLT, Int.reduceLT, Int.reduceLE, Int.reduceEq, Int.reduceNeg, Nat.reduceMul, Int.reduceAdd, Int.reduceToNat, *]); (try rfl); (try omega); done)) | fail) ?_) <;> (try simp (maxSteps := 1000000) (disch := omega) only [push_cast, go_sem, Nat.reduceEqDiff, ↓reduceIte, reduceCtorEq, Nat.reduceAdd, Nat.reduceSub, Nat.reduceLeDiff, Nat.reduceLT, Int.reduceLT, Int.reduceLE, Int.reduceEq, Int.reduceNeg, Nat.reduceMul, Int.reduceAdd, Int.reduceToNat, *]))
    | ((with_reducible refine call_by2 [true, true] (re) (by first | (refine ⟨?_, ?_, ?_, ?_⟩ <;> ((try simp (maxSteps := 1000000) (disch := omega) only [push_cast, go_sem, Nat.reduceEqDiff, ↓reduceIte, reduceCtorEq, Nat.reduceAdd, Nat.reduceSub, Nat.reduceLeDiff, Nat.reduceLT, Int.reduceLT, Int.reduceLE, Int.reduceEq, Int.reduceNeg, Nat.reduceMul, Int.reduceAdd, Int.reduceToNat, *]); (try rfl); (try omega); done)) | fail) ?_) <;> (try simp (maxSteps := 1000000) (disch := omega) only [push_cast, go_sem, Nat.reduceEqDiff, ↓reduceIte, reduceCtorEq, Nat.reduceAdd, Nat.reduceSub, Nat.reduceLeDiff, Nat.reduceLT, Int.reduceLT, Int.reduceLE, Int.reduceEq, Int.reduceNeg, Nat.reduceMul, Int.reduceAdd, Int.reduceToNat, *]))
    | ((with_reducible refine call_by2 [true, true] (stc) (by first | (refine ⟨?_, ?_, ?_, ?_⟩ <;> ((try simp (maxSteps := 1000000) (disch := omega) only [push_cast, go_sem, Nat.reduceEqDiff, ↓reduceIte, reduceCtorEq, Nat.reduceAdd, Nat.reduceSub, Nat.reduceLeDiff, Nat.reduceLT, Int.reduceLT, Int.reduceLE, Int.reduceEq, Int.reduceNeg, Nat.reduceMul, Int.reduceAdd, Int.reduceToNat, *]); (try rfl); (try omega); done)) | fail) ?_) <;> (try simp (maxSteps := 1000000) (disch := omega) only [push_cast, go_sem, Nat.reduceEqDiff, ↓reduceIte, reduceCtorEq, Nat.reduceAdd, Nat.reduceSub, Nat.reduceLeDiff, Nat.reduceLT, Int.reduceLT, Int.reduceLE, Int.reduceEq, Int.reduceNeg, Nat.reduceMul, Int.reduceAdd, Int.reduceToNat, *]))
    | ((with_reducible refine call_by2 [true, true] (rec') (by first | (refine ⟨?_, ?_, ?_, ?_⟩ <;> ((try simp (maxSteps := 1000000) (disch := omega) only [push_cast, go_sem, Nat.reduceEqDiff, ↓reduceIte, reduceCtorEq, Nat.reduceAdd, Nat.reduceSub, Nat.reduceLeDiff, Nat.reduceLT, Int.reduceLT, Int.reduceLE, Int.reduceEq, Int.reduceNeg, Nat.reduceMul, Int.reduceAdd, Int.reduceToNat, *]); (try rfl); (try omega); done)) | fail) ?_) <;> (try simp (maxSteps := 1000000) (disch := omega) only [push_cast, go_sem, Nat.reduceEqDiff, ↓reduceIte, reduceCtorEq, Nat.reduceAdd, Nat.reduceSub, Nat.reduceLeDiff, Nat.reduceLT, Int.reduceLT, Int.reduceLE, Int.reduceEq, Int.reduceNeg, Nat.reduceMul, Int.reduceAdd, Int.reduceToNat, *]))
    | ((with_reducible refine call_by2 [true, true] (rs1) (by first | (refine ⟨?_, ?_, ?_, ?_⟩ <;> ((try simp (maxSteps := 1000000) (disch := omega) only [push_cast, go_sem, Nat.reduceEqDiff, ↓reduceIte, reduceCtorEq, Nat.reduceAdd, Nat.reduceSub, Nat.reduceLeDiff, Nat.reduceLT, Int.reduceLT, Int.reduceLE, Int.reduceEq, Int.reduceNeg, Nat.reduceMul, Int.reduceAdd, Int.reduceToNat, *]); (try rfl); (try omega); done)) | fail) ?_) <;> (try simp (maxSteps := 1000000) (disch := omega) only [push_cast, go_sem, Nat.reduceEqDiff, ↓reduceIte, reduceCtorEq, Nat.reduceAdd, Nat.reduceSub, Nat.reduceLeDiff, Nat.reduceLT, Int.reduceLT, Int.reduceLE, Int.reduceEq, Int.reduceNeg, Nat.reduceMul, Int.reduceAdd, Int.reduceToNat, *]))
    | ((with_reducible refine call_by2 [true, true] (rs2) (by first | (refine ⟨?_, ?_, ?_, ?_⟩ <;> ((try simp (maxSteps := 1000000) (disch := omega) only [push_cast, go_sem, Nat.reduceEqDiff, ↓reduceIte, reduceCtorEq, Nat.reduceAdd, Nat.reduceSub, Nat.reduceLeDiff, Nat.reduceLT, Int.reduceLT, Int.reduceLE, Int.reduceEq, Int.reduceNeg, Nat.reduceMul, Int.reduceAdd, Int.reduceToNat, *]); (try rfl); (try omega); done)) | fail) ?_) <;> (try simp (maxSteps := 1000000) (disch := omega) only [push_cast, go_sem, Nat.reduceEqDiff, ↓reduceIte, reduceCtorEq, Nat.reduceAdd, Nat.reduceSub, Nat.reduceLeDiff, Nat.reduceLT, Int.reduceLT, Int.reduceLE, Int.reduceEq, Int.reduceNeg, Nat.reduceMul, Int.reduceAdd, Int.reduceToNat, *]))
    | ((with_reducible refine call_by2 [true, true] (rs3) (by first | (refine ⟨?_, ?_, ?_, ?_⟩ <;> ((try simp (maxSteps := 1000000) (disch := omega) only [push_cast, go_sem, Nat.reduceEqDiff, ↓reduceIte, reduceCtorEq, Nat.reduceAdd, Nat.reduceSub, Nat.reduceLeDiff, Nat.reduceLT, Int.reduceLT, Int.reduceLE, Int.reduceEq, Int.reduceNeg, Nat.reduceMul, Int.reduceAdd, Int.reduceToNat, *]); (try rfl); (try omega); done)) | fail) ?_) <;> (try simp (maxSteps := 1000000) (disch := omega) only [push_cast, go_sem, Nat.reduceEqDiff, ↓reduceIte, reduceCtorEq, Nat.reduceAdd, Nat.reduceSub, Nat.reduceLeDiff, Nat.reduceLT, Int.reduceLT, Int.reduceLE, Int.reduceEq, Int.reduceNeg, Nat.reduceMul, Int.reduceAdd, Int.reduceToNat, *]))
    | ((with_reducible refine call_by2 [true, true] (rs4) (by first | (refine ⟨?_, ?_, ?_, ?_⟩ <;> ((try simp (maxSteps := 1000000) (disch := omega) only [push_cast, go_sem, Nat.reduceEqDiff, ↓reduceIte, reduceCtorEq, Nat.reduceAdd, Nat.reduceSub, Nat.reduceLeDiff, Nat.reduceLT, Int.reduceLT, Int.reduceLE, Int.reduceEq, Int.reduceNeg, Nat.reduceMul, Int.reduceAdd, Int.reduceToNat, *]); (try rfl); (try omega); done)) | fail) ?_) <;> (try simp (maxSteps := 1000000) (disch := omega) only [push_cast, go_sem, Nat.reduceEqDiff, ↓reduceIte, reduceCtorEq, Nat.reduceAdd, Nat.reduceSub, Nat.reduceLeDiff, Nat.reduceLT, Int.reduceLT, Int.reduceLE, Int.reduceEq, Int.reduceNeg, Nat.reduceMul, Int.reduceAdd, Int.reduceToNat, *]))
    | omega)
      · refine loop_endN (⟨i + 1, nx', l', L'⟩, some ⟨N + 1, N + 1 + 1, nx', l', L'⟩) _ (by omega) ⟨by dsimp only; omega, by dsimp only; omega, hT', fun y h => by cases h; exact ⟨by dsimp only; omega, by dsimp only; omega, by dsimp only; omega, by dsimp only; omega, by dsimp only; omega, hT'⟩⟩ (by dsimp only; omega) (by dsimp only; simp (maxSteps := 1000000) (disch := omega) only [push_cast, go_sem, Nat.reduceEqDiff, ↓reduceIte, reduceCtorEq, Nat.reduceAdd, Nat.reduceSub, Nat.reduceLeDiff, Nat.reduceLT, Int.reduceLT, Int.reduceLE, Int.reduceEq, Int.reduceNeg, Nat.reduceMul, Int.reduceAdd, Int.reduceToNat, *]) (by dsimp only; simp (maxSteps := 1000000) (disch := omega) only [push_cast, go_sem, Nat.reduceEqDiff, ↓reduceIte, reduceCtorEq, Nat.reduceAdd, Nat.reduceSub, Nat.reduceLeDiff, Nat.reduceLT, Int.reduceLT, Int.reduceLE, Int.reduceEq, Int.reduceNeg, Nat.reduceMul, Int.reduceAdd, Int.reduceToNat, *]) (Nat.le_refl _)
      · refine loop_endN (⟨i + 1, nx', l', L'⟩, some ⟨N + 1, N + 1 + 1, nx, l, L⟩) _ (by omega) ⟨by dsimp only; omega, by dsimp only; omega, hT', fun y h => by cases h; exact ⟨by dsimp only; omega, by dsimp only; omega, by dsimp only; omega, by dsimp only; omega, by dsimp only; omega, hT⟩⟩ (by dsimp only; omega) (by dsimp only; simp (maxSteps := 1000000) (disch := omega) only [push_cast, go_sem, Nat.reduceEqDiff, ↓reduceIte, reduceCtorEq, Nat.reduceAdd, Nat.reduceSub, Nat.reduceLeDiff, Nat.reduceLT, Int.reduceLT, Int.reduceLE, Int.reduceEq, Int.reduceNeg, Nat.reduceMul, Int.reduceAdd, Int.reduceToNat, *]) (by dsimp only; simp (maxSteps := 1000000) (disch := omega) only [push_cast, go_sem, Nat.reduceEqDiff, ↓reduceIte, reduceCtorEq, Nat.reduceAdd, Nat.reduceSub, Nat.reduceLeDiff, Nat.reduceLT, Int.reduceLT, Int.reduceLE, Int.reduceEq, Int.reduceNeg, Nat.reduceMul, Int.reduceAdd, Int.reduceToNat, *]) (Nat.le_refl _)
      · refine loop_endN (⟨i + 1, nx', l', L'⟩, some ⟨a, b, ny', m', M'⟩) _ (by omega) ⟨by dsimp only; omega, by dsimp only; omega, hT', fun y h => by cases h; exact ⟨by dsimp only; omega, by dsimp only; omega, by dsimp only; omega, by dsimp only; omega, by dsimp only; omega, hM'⟩⟩ (by dsimp only; omega) (by dsimp only; simp (maxSteps := 1000000) (disch := omega) only [push_cast, go_sem, Nat.reduceEqDiff, ↓reduceIte, reduceCtorEq, Nat.reduceAdd, Nat.reduceSub, Nat.reduceLeDiff, Nat.reduceLT, Int.reduceLT, Int.reduceLE, Int.reduceEq, Int.reduceNeg, Nat.reduceMul, Int.reduceAdd, Int.reduceToNat, *]) (by dsimp only; simp (maxSteps := 1000000) (disch := omega) only [push_cast, go_sem, Nat.reduceEqDiff, ↓reduceIte, reduceCtorEq, Nat.reduceAdd, Nat.reduceSub, Nat.reduceLeDiff, Nat.reduceLT, Int.reduceLT, Int.reduceLE, Int.reduceEq, Int.reduceNeg, Nat.reduceMul, Int.reduceAdd, Int.reduceToNat, *]) (Nat.le_refl _)
      · refine loop_endN (⟨i + 1, nx', l', L'⟩, some ⟨a, b, ny, m, M⟩) _ (by omega) ⟨by dsimp only; omega, by dsimp only; omega, hT', fun y h => by cases h; exact ⟨by dsimp only; omega, by dsimp only; omega, by dsimp only; omega, by dsimp only; omega, by dsimp only; omega, hM⟩⟩ (by dsimp only; omega) (by dsimp only; simp (maxSteps := 1000000) (disch := omega) only [push_cast, go_sem, Nat.reduceEqDiff, ↓reduceIte, reduceCtorEq, Nat.reduceAdd, Nat.reduceSub, Nat.reduceLeDiff, Nat.reduceLT, Int.reduceLT, Int.reduceLE, Int.reduceEq, Int.reduceNeg, Nat.reduceMul, Int.reduceAdd, Int.reduceToNat, *]) (by dsimp only; simp (maxSteps := 1000000) (disch := omega) only [push_cast, go_sem, Nat.reduceEqDiff, ↓reduceIte, reduceCtorEq, Nat.reduceAdd, Nat.reduceSub, Nat.reduceLeDiff, Nat.reduceLT, Int.reduceLT, Int.reduceLE, Int.reduceEq, Int.reduceNeg, Nat.reduceMul, Int.reduceAdd, Int.reduceToNat, *]) (Nat.le_refl _)
    · simp (maxSteps := 1000000) (disch := omega) only [push_cast, go_sem, Nat.reduceEqDiff, ↓reduceIte, reduceCtorEq, Nat.reduceAdd, Nat.reduceSub, Nat.reduceLeDiff, Nat.reduceLT, Int.reduceLT, Int.reduceLE, Int.reduceEq, Int.reduceNeg, Nat.reduceMul, Int.reduceAdd, Int.reduceToNat, *]
      repeat' (first
    | with_reducible refine And.intro ?_ ?_
    | (with_reducible intro hx; (try simp only [false_dec, true_dec, Int.ofNat_inj, gt_iff_lt, ge_iff_le, decide_eq_true_eq, decide_eq_false_iff_not, Bool.not_eq_true', Bool.not_eq_false', Bool.and_eq_true, Bool.or_eq_false_iff, ne_eq, Classical.not_not] at hx); (first | (exfalso; omega) | (try simp (maxSteps := 1000000) (disch := omega) only [push_cast, go_sem, Nat.reduceEqDiff, ↓reduceIte, reduceCtorEq, Nat.reduceAdd, Nat.reduceSub, Nat.reduceLeDiff, Nat.reduceLT, Int.reduceLT, Int.reduceLE, Int.reduceEq, Int.reduceNeg, Nat.reduceMul, Int.reduceAdd, Int.reduceToNat, *])))
    | (with_reducible refine branch_t ?_; (try simp (maxSteps := 1000000) (disch := omega) only [push_cast, go_sem, Nat.reduceEqDiff, ↓reduceIte, reduceCtorEq, Nat.reduceAdd, Nat.reduceSub, Nat.reduceLeDiff, Nat.reduceLT, Int.reduceLT, Int.reduceLE, Int.reduceEq, Int.reduceNeg, Nat.reduceMul, Int.reduceAdd, Int.reduceToNat, *]))
    | (with_reducible refine branch_f ?_; (try simp (maxSteps := 1000000) (disch := omega) only [push_cast, go_sem, Nat.reduceEqDiff, ↓reduceIte, reduceCtorEq, Nat.reduceAdd, Nat.reduceSub, Nat.reduceLeDiff, Nat.reduceLT, Int.reduceLT, Int.reduceLE, Int.reduceEq, Int.reduceNeg, Nat.reduceMul, Int.reduceAdd, Int.reduceToNat, *]))
    | (with_reducible refine cond_split ?_ ?_)
    | (with_reducible refine guard_split ?_ ?_)
    | ((with_reducible refine drw_open 0 ?_); simp (maxSteps := 1000000) (disch := omega) only [push_cast, go_sem, Nat.reduceEqDiff, ↓reduceIte, reduceCtorEq, Nat.reduceAdd, Nat.reduceSub, Nat.reduceLeDiff, Nat.reduceLT, Int.reduceLT, Int.reduceLE, Int.reduceEq, Int.reduceNeg, Nat.reduceMul, Int.reduceAdd, Int.reduceToNat, *]; (with_reducible refine drw_id ?_))
    | ((with_reducible refine drw_open 1 ?_); simp (maxSteps := 1000000) (disch := omega) only [push_cast, go_sem, Nat.reduceEqDiff, ↓reduceIte, reduceCtorEq, Nat.reduceAdd, Nat.reduceSub, Nat.reduceLeDiff, Nat.reduceLT, Int.reduceLT, Int.reduceLE, Int.reduceEq, Int.reduceNeg, Nat.reduceMul, Int.reduceAdd, Int.reduceToNat, *]; (with_reducible refine drw_id ?_))
    | ((with_reducible refine drw_open 2 ?_); simp (maxSteps := 1000000) (disch := omega) only [push_cast, go_sem, Nat.reduceEqDiff, ↓reduceIte, reduceCtorEq, Nat.reduceAdd, Nat.reduceSub, Nat.reduceLeDiff, Nat.reduceLT, Int.reduceLT, Int.reduceLE, Int.reduceEq, Int.reduceNeg, Nat.reduceMul, Int.reduceAdd, Int.reduceToNat, *]; (with_reducible refine drw_id ?_))
    | ((with_reducible refine drw_intro ?_ ?_); (focus decide +kernel); (try simp (maxSteps := 1000000) (disch := omega) only [push_cast, go_sem, Nat.reduceEqDiff, ↓reduceIte, reduceCtorEq, Nat.reduceAdd, Nat.reduceSub, Nat.reduceLeDiff, Nat.reduceLT, Int.reduceLT, Int.reduceLE, Int.reduceEq, Int.reduceNeg, Nat.reduceMul, Int.reduceAdd, Int.reduceToNat, *]))
    | (with_reducible refine still_split ?_ ?_)
    | ((with_reducible refine call_by2 [] (awake_spec) (by first | (refine ⟨?_, ?_, ?_, ?_⟩ <;> ((try simp (maxSteps := 1000000) (disch := omega) only [push_cast, go_sem, Nat.reduceEqDiff, ↓reduceIte, reduceCtorEq, Nat.reduceAdd, Nat.reduceSub, Nat.reduceLeDiff, Nat.reduceLT, Int.reduceLT, Int.reduceLE, Int.reduceEq, Int.reduceNeg, Nat.reduceMul, Int.reduceAdd, Int.reduceToNat, *]); (try rfl); (try omega); done)) | fail) ?_) <;> (try simp (maxSteps := 1000000) (disch := omega) only [push_cast, go_sem, Nat.reduceEqDiff, ↓reduceIte, reduceCtorEq, Nat.reduceAdd, Nat.reduceSub, Nat.reduceLeDiff, Nat.reduceLT, Int.reduceLT, Int.reduceLE, Int.reduceEq, Int.reduceNeg, Nat.reduceMul, Int.reduceAdd, Int.reduceToNat, *]))
    | omega)
theorem fits_call {cs : List AV} (h : Fits [.int .i64, .slice 6 true [.int .i64, .bool, .str, .str, .bool, .int .i64], .bool, .str, .str, .int .i64] cs) : ∃ c : CallA, AV.agg cs = encCall c := by
  cases h with
  | int _ n _ h => cases h with
    | slice els hl he ha hb h =>
      obtain ⟨x, rfl, _⟩ := els_map (enc := encO) (p := fun _ => True) (els := els) fun e hm => by
        obtain ⟨cs, rfl⟩ := ha e hm rfl
        obtain ⟨x, hx⟩ := fits_one (he _ hm)
        exact ⟨x, hx, trivial⟩
      cases h with
      | bool b h => cases h with
        | str s _ h => cases h with
          | str s' _ h => cases h with
            | int _ n' _ h => cases h; exact ⟨⟨n, x, b, s.data.toList, s'.data.toList, n'⟩, by rw [encCall, ← ofL_of, ← ofL_of]⟩
end Go.Ev
