import Derived.Test.YtlkcehghfhdbjaaT4
set_option linter.unusedVariables false
set_option linter.unusedSimpArgs false
set_option linter.unusedVariables false
set_option linter.unusedSimpArgs false
namespace Go.Ev
set_option maxRecDepth 100000
set_option maxHeartbeats 0
open Go.Proofs
theorem from_spec (nx : Int) (l : List RecA) (k : List UInt8) (hs : SortedK l) (hl : l.length ≤ 140737488355328) : Spec Try.prog 47 [.optr (.agg [.int .i64 nx, .olst 5 (l.map encA)]) 0, .str (ofL k)] (.int .i64 (lb l k)) [.optr (.agg [.int .i64 nx, .olst 5 (l.map encA)]) 0, .str (ofL k)] := by
  refine spec_run (P := Try.prog) (f := 47) (fn := Try.f47) (by kernel_rfl) (by kernel_rfl) rfl (by simp [Try.f47]) ?_; simp (maxSteps := 1000000) (disch := omega) only [push_cast, go_sem, Nat.reduceEqDiff, ↓reduceIte, reduceCtorEq, Nat.reduceAdd, Nat.reduceSub, Nat.reduceLeDiff, Nat.reduceLT, Int.reduceLT, Int.reduceLE, Int.reduceEq, Int.reduceNeg, Nat.reduceMul, Int.reduceAdd, Int.reduceToNat, Try.f47, *]
  repeat' (first
    | with_reducible refine And.intro ?_ ?_
    | (with_reducible intro hx; (try simp only [false_dec, true_dec, Int.ofNat_inj, gt_iff_lt, ge_iff_le, decide_eq_true_eq, decide_eq_false_iff_not, Bool.not_eq_true', Bool.not_eq_false', Bool.and_eq_true, Bool.or_eq_false_iff, ne_eq, Classical.not_not] at hx); (first | (exfalso; omega) | (try simp (maxSteps := 1000000) (disch := omega) only [push_cast, go_sem, Nat.reduceEqDiff, ↓reduceIte, reduceCtorEq, Nat.reduceAdd, Nat.reduceSub, Nat.reduceLeDiff, Nat.reduceLT, Int.reduceLT, Int.reduceLE, Int.reduceEq, Int.reduceNeg, Nat.reduceMul, Int.reduceAdd, Int.reduceToNat, *])))
    | (with_reducible refine branch_t ?_; (try simp (maxSteps := 1000000) (disch := omega) only [push_cast, go_sem, Nat.reduceEqDiff, ↓reduceIte, reduceCtorEq, Nat.reduceAdd, Nat.reduceSub, Nat.reduceLeDiff, Nat.reduceLT, Int.reduceLT, Int.reduceLE, Int.reduceEq, Int.reduceNeg, Nat.reduceMul, Int.reduceAdd, Int.reduceToNat, *]))
    | (with_reducible refine branch_f ?_; (try simp (maxSteps := 1000000) (disch := omega) only [push_cast, go_sem, Nat.reduceEqDiff, ↓reduceIte, reduceCtorEq, Nat.reduceAdd, Nat.reduceSub, Nat.reduceLeDiff, Nat.reduceLT, Int.reduceLT, Int.reduceLE, Int.reduceEq, Int.reduceNeg, Nat.reduceMul, Int.reduceAdd, Int.reduceToNat, *]))
    | (with_reducible refine cond_split ?_ ?_)
    | (with_reducible refine guard_split ?_ ?_)
    | ((with_reducible refine drw_open 0 ?_); simp (maxSteps := 1000000) (disch := omega) only [push_cast, go_sem, Nat.reduceEqDiff, ↓reduceIte, reduceCtorEq, Nat.reduceAdd, Nat.reduceSub, Nat.reduceLeDiff, Nat.reduceLT, Int.reduceLT, Int.reduceLE, Int.reduceEq, Int.reduceNeg, Nat.reduceMul, Int.reduceAdd, Int.reduceToNat, *]; (with_reducible refine drw_id ?_))
    | ((with_reducible refine drw_open 1 ?_); simp (maxSteps := 1000000) (disch := omega) only [push_cast, go_sem, Nat.reduceEqDiff, ↓reduceIte, reduceCtorEq, Nat.reduceAdd, Nat.reduceSub, Nat.reduceLeDiff, Nat.reduceLT, Int.reduceLT, Int.reduceLE, Int.reduceEq, Int.reduceNeg, Nat.reduceMul, Int.reduceAdd, Int.reduceToNat, *]; (with_reducible refine drw_id ?_))
    | ((with_reducible refine drw_open 2 ?_); simp (maxSteps := 1000000) (disch := omega) only [push_cast, go_sem, Nat.reduceEqDiff, ↓reduceIte, reduceCtorEq, Nat.reduceAdd, Nat.reduceSub, Nat.reduceLeDiff, Nat.reduceLT, Int.reduceLT, Int.reduceLE, Int.reduceEq, Int.reduceNeg, Nat.reduceMul, Int.reduceAdd, Int.reduceToNat, *]; (with_reducible refine drw_id ?_))
    | ((with_reducible refine drw_intro ?_ ?_); (focus decide +kernel); (try simp (maxSteps := 1000000) (disch := omega) only [push_cast, go_sem, Nat.reduceEqDiff, ↓reduceIte, reduceCtorEq, Nat.reduceAdd, Nat.reduceSub, Nat.reduceLeDiff, Nat.reduceLT, Int.reduceLT, Int.reduceLE, Int.reduceEq, Int.reduceNeg, Nat.reduceMul, Int.reduceAdd, Int.reduceToNat, *]))
    | (with_reducible refine still_split ?_ ?_)
    | ((with_reducible refine call_by2 [] (search_spec nx l k hs hl) (by first | (refine ⟨?_, ?_, ?_, ?_⟩ <;> ((try simp (maxSteps := 1000000) (disch := omega) only [push_cast, go_sem, Nat.reduceEqDiff, ↓reduceIte, reduceCtorEq, Nat.reduceAdd, Nat.reduceSub, Nat.reduceLeDiff, Nat.reduceLT, Int.reduceLT, Int.reduceLE, Int.reduceEq, Int.reduceNeg, Nat.reduceMul, Int.reduceAdd, Int.reduceToNat, *]); (try rfl); (try omega); done)) | fail) ?_) <;> (try simp (maxSteps := 1000000) (disch := omega) only [push_cast, go_sem, Nat.reduceEqDiff, ↓reduceIte, reduceCtorEq, Nat.reduceAdd, Nat.reduceSub, Nat.reduceLeDiff, Nat.reduceLT, Int.reduceLT, Int.reduceLE, Int.reduceEq, Int.reduceNeg, Nat.reduceMul, Int.reduceAdd, Int.reduceToNat, *]))
    | omega)
theorem at_spec (nx : Int) (l : List RecA) (k : List UInt8) (hs : SortedK l) (hl : l.length ≤ 140737488355328) : Spec Try.prog 46 [.optr (.agg [.int .i64 nx, .olst 5 (l.map encA)]) 0, .str (ofL k)] (.tup [.int .i64 (lb l k), .bool (l.any fun r => decide (r.key = k))]) [.optr (.agg [.int .i64 nx, .olst 5 (l.map encA)]) 0, .str (ofL k)] := by
  refine spec_run (P := Try.prog) (f := 46) (fn := Try.f46) (by kernel_rfl) (by kernel_rfl) rfl (by simp [Try.f46]) ?_; simp (maxSteps := 1000000) (disch := omega) only [push_cast, go_sem, Nat.reduceEqDiff, ↓reduceIte, reduceCtorEq, Nat.reduceAdd, Nat.reduceSub, Nat.reduceLeDiff, Nat.reduceLT, Int.reduceLT, Int.reduceLE, Int.reduceEq, Int.reduceNeg, Nat.reduceMul, Int.reduceAdd, Int.reduceToNat, Try.f46, *]
  repeat' (first
    | with_reducible refine And.intro ?_ ?_
    | (with_reducible intro hx; (try simp only [false_dec, true_dec, Int.ofNat_inj, gt_iff_lt, ge_iff_le, decide_eq_true_eq, decide_eq_false_iff_not, Bool.not_eq_true', Bool.not_eq_false', Bool.and_eq_true, Bool.or_eq_false_iff, ne_eq, Classical.not_not] at hx); (first | (exfalso; omega) | (try simp (maxSteps := 1000000) (disch := omega) only [push_cast, go_sem, Nat.reduceEqDiff, ↓reduceIte, reduceCtorEq, Nat.reduceAdd, Nat.reduceSub, Nat.reduceLeDiff, Nat.reduceLT, Int.reduceLT, Int.reduceLE, Int.reduceEq, Int.reduceNeg, Nat.reduceMul, Int.reduceAdd, Int.reduceToNat, *])))
    | (with_reducible refine branch_t ?_; (try simp (maxSteps := 1000000) (disch := omega) only [push_cast, go_sem, Nat.reduceEqDiff, ↓reduceIte, reduceCtorEq, Nat.reduceAdd, Nat.reduceSub, Nat.reduceLeDiff, Nat.reduceLT, Int.reduceLT, Int.reduceLE, Int.reduceEq, Int.reduceNeg, Nat.reduceMul, Int.reduceAdd, Int.reduceToNat, *]))
    | (with_reducible refine branch_f ?_; (try simp (maxSteps := 1000000) (disch := omega) only [push_cast, go_sem, Nat.reduceEqDiff, ↓reduceIte, reduceCtorEq, Nat.reduceAdd, Nat.reduceSub, Nat.reduceLeDiff, Nat.reduceLT, Int.reduceLT, Int.reduceLE, Int.reduceEq, Int.reduceNeg, Nat.reduceMul, Int.reduceAdd, Int.reduceToNat, *]))
    | (with_reducible refine cond_split ?_ ?_)
    | (with_reducible refine guard_split ?_ ?_)
    | ((with_reducible refine drw_open 0 ?_); simp (maxSteps := 1000000) (disch := omega) only [push_cast, go_sem, Nat.reduceEqDiff, ↓reduceIte, reduceCtorEq, Nat.reduceAdd, Nat.reduceSub, Nat.reduceLeDiff, Nat.reduceLT, Int.reduceLT, Int.reduceLE, Int.reduceEq, Int.reduceNeg, Nat.reduceMul, Int.reduceAdd, Int.reduceToNat, *]; (with_reducible refine drw_id ?_))
    | ((with_reducible refine drw_open 1 ?_); simp (maxSteps := 1000000) (disch := omega) only [push_cast, go_sem, Nat.reduceEqDiff, ↓reduceIte, reduceCtorEq, Nat.reduceAdd, Nat.reduceSub, Nat.reduceLeDiff, Nat.reduceLT, Int.reduceLT, Int.reduceLE, Int.reduceEq, Int.reduceNeg, Nat.reduceMul, Int.reduceAdd, Int.reduceToNat, *]; (with_reducible refine drw_id ?_))
    | ((with_reducible refine drw_open 2 ?_); simp (maxSteps := 1000000) (disch := omega) only [push_cast, go_sem, Nat.reduceEqDiff, ↓reduceIte, reduceCtorEq, Nat.reduceAdd, Nat.reduceSub, Nat.reduceLeDiff, Nat.reduceLT, Int.reduceLT, Int.reduceLE, Int.reduceEq, Int.reduceNeg, Nat.reduceMul, Int.reduceAdd, Int.reduceToNat, *]; (with_reducible refine drw_id ?_))
    | ((with_reducible refine drw_intro ?_ ?_); (focus decide +kernel); (try simp (maxSteps := 1000000) (disch := omega) only [push_cast, go_sem, Nat.reduceEqDiff, ↓reduceIte, reduceCtorEq, Nat.reduceAdd, Nat.reduceSub, Nat.reduceLeDiff, Nat.reduceLT, Int.reduceLT, Int.reduceLE, Int.reduceEq, Int.reduceNeg, Nat.reduceMul, Int.reduceAdd, Int.reduceToNat, *]))
    | (with_reducible refine still_split ?_ ?_)
    | ((with_reducible refine call_by2 [true] (from_spec nx l k hs hl) (by first | (refine ⟨?_, ?_, ?_, ?_⟩ <;> ((try simp (maxSteps := 1000000) (disch := omega) only [push_cast, go_sem, Nat.reduceEqDiff, ↓reduceIte, reduceCtorEq, Nat.reduceAdd, Nat.reduceSub, Nat.reduceLeDiff, Nat.reduceLT, Int.reduceLT, Int.reduceLE, Int.reduceEq, Int.reduceNeg, Nat.reduceMul, Int.reduceAdd, Int.reduceToNat, *]); (try rfl); (try omega); done)) | fail) ?_) <;> (try simp (maxSteps := 1000000) (disch := omega) only [push_cast, go_sem, Nat.reduceEqDiff, ↓reduceIte, reduceCtorEq, Nat.reduceAdd, Nat.reduceSub, Nat.reduceLeDiff, Nat.reduceLT, Int.reduceLT, Int.reduceLE, Int.reduceEq, Int.reduceNeg, Nat.reduceMul, Int.reduceAdd, Int.reduceToNat, *]))
    | omega)
  · have hlt := hx
    have : (l.any fun r => decide (r.key = k)) = decide (l[lb l k].key = k) := by
      by_cases h : l[lb l k].key = k
      · simp only [h, decide_true]
        exact List.any_eq_true.2 ⟨l[lb l k], List.getElem_mem _, by simpa using h⟩
      · simp only [h, decide_false]
        refine List.any_eq_false.2 fun r hr => ?_
        obtain ⟨j, hj, rfl⟩ := List.mem_iff_getElem.1 hr
        simp only [decide_eq_true_eq]
        intro he
        rcases Nat.lt_trichotomy j (lb l k) with h1 | h1 | h1
        · have := lb_lt hj h1; rw [he, bl_irrefl] at this; cases this
        · subst h1; exact h he
        · have h2 := List.pairwise_iff_getElem.1 hs (lb l k) j hlt hj h1
          have h3 := lb_ge hs hlt (Nat.le_refl _)
          rw [he] at h2; rw [h2] at h3; cases h3
    rw [this]
  · have : (l.any fun r => decide (r.key = k)) = false := by
      refine List.any_eq_false.2 fun r hr => ?_
      obtain ⟨j, hj, rfl⟩ := List.mem_iff_getElem.1 hr
      simp only [decide_eq_true_eq]
      intro he
      have := lb_lt (l := l) (k := k) hj (by omega)
      rw [he, bl_irrefl] at this; cases this
    rw [this]
theorem delete_spec (l : List RecA) (i : Nat) (hi : i < l.length) : Spec Try.prog 57 [.olst 5 (l.map encA), .int .i64 i, .int .i64 (i + 1 : Nat)] (.olst 5 ((l.eraseIdx i).map encA)) [.undef, .int .i64 i, .int .i64 (i + 1 : Nat)] := by
  refine spec_run (P := Try.prog) (f := 57) (fn := Try.f57) (by kernel_rfl) (by kernel_rfl) rfl (by simp [Try.f57]) ?_; simp (maxSteps := 1000000) (disch := omega) only [push_cast, go_sem, Nat.reduceEqDiff, ↓reduceIte, reduceCtorEq, Nat.reduceAdd, Nat.reduceSub, Nat.reduceLeDiff, Nat.reduceLT, Int.reduceLT, Int.reduceLE, Int.reduceEq, Int.reduceNeg, Nat.reduceMul, Int.reduceAdd, Int.reduceToNat, Try.f57, *]
  repeat' (first
    | with_reducible refine And.intro ?_ ?_
    | (with_reducible intro hx; (try simp only [false_dec, true_dec, Int.ofNat_inj, gt_iff_lt, ge_iff_le, decide_eq_true_eq, decide_eq_false_iff_not, Bool.not_eq_true', Bool.not_eq_false', Bool.and_eq_true, Bool.or_eq_false_iff, ne_eq, Classical.not_not] at hx); (first | (exfalso; omega) | (try simp (maxSteps := 1000000) (disch := omega) only [push_cast, go_sem, Nat.reduceEqDiff, ↓reduceIte, reduceCtorEq, Nat.reduceAdd, Nat.reduceSub, Nat.reduceLeDiff, Nat.reduceLT, Int.reduceLT, Int.reduceLE, Int.reduceEq, Int.reduceNeg, Nat.reduceMul, Int.reduceAdd, Int.reduceToNat, *])))
    | (with_reducible refine branch_t ?_; (try simp (maxSteps := 1000000) (disch := omega) only [push_cast, go_sem, Nat.reduceEqDiff, ↓reduceIte, reduceCtorEq, Nat.reduceAdd, Nat.reduceSub, Nat.reduceLeDiff, Nat.reduceLT, Int.reduceLT, Int.reduceLE, Int.reduceEq, Int.reduceNeg, Nat.reduceMul, Int.reduceAdd, Int.reduceToNat, *]))
    | (with_reducible refine branch_f ?_; (try simp (maxSteps := 1000000) (disch := omega) only [push_cast, go_sem, Nat.reduceEqDiff, ↓reduceIte, reduceCtorEq, Nat.reduceAdd, Nat.reduceSub, Nat.reduceLeDiff, Nat.reduceLT, Int.reduceLT, Int.reduceLE, Int.reduceEq, Int.reduceNeg, Nat.reduceMul, Int.reduceAdd, Int.reduceToNat, *]))
    | (with_reducible refine cond_split ?_ ?_)
    | (with_reducible refine guard_split ?_ ?_)
    | ((with_reducible refine drw_open 0 ?_); simp (maxSteps := 1000000) (disch := omega) only [push_cast, go_sem, Nat.reduceEqDiff, ↓reduceIte, reduceCtorEq, Nat.reduceAdd, Nat.reduceSub, Nat.reduceLeDiff, Nat.reduceLT, Int.reduceLT, Int.reduceLE, Int.reduceEq, Int.reduceNeg, Nat.reduceMul, Int.reduceAdd, Int.reduceToNat, *]; (with_reducible refine drw_id ?_))
    | ((with_reducible refine drw_open 1 ?_); simp (maxSteps := 1000000) (disch := omega) only [push_cast, go_sem, Nat.reduceEqDiff, ↓reduceIte, reduceCtorEq, Nat.reduceAdd, Nat.reduceSub, Nat.reduceLeDiff, Nat.reduceLT, Int.reduceLT, Int.reduceLE, Int.reduceEq, Int.reduceNeg, Nat.reduceMul, Int.reduceAdd, Int.reduceToNat, *]; (with_reducible refine drw_id ?_))
    | ((with_reducible refine drw_open 2 ?_); simp (maxSteps := 1000000) (disch := omega) only [push_cast, go_sem, Nat.reduceEqDiff, ↓reduceIte, reduceCtorEq, Nat.reduceAdd, Nat.reduceSub, Nat.reduceLeDiff, Nat.reduceLT, Int.reduceLT, Int.reduceLE, Int.reduceEq, Int.reduceNeg, Nat.reduceMul, Int.reduceAdd, Int.reduceToNat, *]; (with_reducible refine drw_id ?_))
    | ((with_reducible refine drw_intro ?_ ?_); (focus decide +kernel); (try simp (maxSteps := 1000000) (disch := omega) only [push_cast, go_sem, Nat.reduceEqDiff, ↓reduceIte, reduceCtorEq, Nat.reduceAdd, Nat.reduceSub, Nat.reduceLeDiff, Nat.reduceLT, Int.reduceLT, Int.reduceLE, Int.reduceEq, Int.reduceNeg, Nat.reduceMul, Int.reduceAdd, Int.reduceToNat, *]))
    | (with_reducible refine still_split ?_ ?_)
    | omega)
  all_goals (try (simp only [List.length_take, List.length_drop, List.length_append, List.length_replicate]; omega))
  · refine bdL_iff.2 fun v hv => ?_
    simp only [List.mem_append, List.mem_map, List.mem_replicate] at hv
    rcases hv with (⟨r, _, rfl⟩ | ⟨_, rfl⟩) | ⟨r, _, rfl⟩
    · simp [encA_bd]
    · simp [Bd, BdL]
    · simp [encA_bd]
  · have hdl : (l.drop (i + 1)).length = l.length - (i + 1) := by simp
    have e1 : ((i : Int) + ((l.drop (i + 1)).length : Int)).toNat = l.length - 1 := by omega
    have e2 : i + (l.drop (i + 1)).length = l.length - 1 := by omega
    have e3 : (l.take i ++ l.drop (i + 1)).length = l.length - 1 := by simp; omega
    have e4 : ∀ C : List RecA, (l.take i ++ l.drop (i + 1) ++ C).take (l.length - 1) = l.take i ++ l.drop (i + 1) := fun C => by
      rw [List.take_append_of_le_length (by omega), List.take_of_length_le (by omega)]
    have e5 : ∀ C : List AV, ((l.take i ++ l.drop (i + 1)).map encA ++ C).take (l.length - 1) = (l.take i ++ l.drop (i + 1)).map encA := fun C => by
      rw [List.take_append_of_le_length (by rw [List.length_map]; omega), List.take_of_length_le (by rw [List.length_map]; omega)]
    rw [e1, e2, e4, List.append_assoc, e5, List.eraseIdx_eq_take_drop_succ]
theorem insert_spec (l : List RecA) (r : RecA) (i : Nat) (hi : i ≤ l.length) (hl : l.length ≤ 100000) : Spec Try.prog 58 [.olst 5 (l.map encA), .int .i64 i, .olst 5 [encA r]] (.olst 5 ((l.take i ++ [r] ++ l.drop i).map encA)) [.undef, .int .i64 i, .olst 5 [encA r]] := by
  by_cases h : i = l.length
  · subst h
    refine spec_run (P := Try.prog) (f := 58) (fn := Try.f58) (by kernel_rfl) (by kernel_rfl) rfl (by simp [Try.f58]) ?_; simp (maxSteps := 1000000) (disch := omega) only [push_cast, go_sem, Nat.reduceEqDiff, ↓reduceIte, reduceCtorEq, Nat.reduceAdd, Nat.reduceSub, Nat.reduceLeDiff, Nat.reduceLT, Int.reduceLT, Int.reduceLE, Int.reduceEq, Int.reduceNeg, Nat.reduceMul, Int.reduceAdd, Int.reduceToNat, Try.f58, *]
    repeat' (first
    | with_reducible refine And.intro ?_ ?_
    | (with_reducible intro hx; (try simp only [false_dec, true_dec, Int.ofNat_inj, gt_iff_lt, ge_iff_le, decide_eq_true_eq, decide_eq_false_iff_not, Bool.not_eq_true', Bool.not_eq_false', Bool.and_eq_true, Bool.or_eq_false_iff, ne_eq, Classical.not_not] at hx); (first | (exfalso; omega) | (try simp (maxSteps := 1000000) (disch := omega) only [push_cast, go_sem, Nat.reduceEqDiff, ↓reduceIte, reduceCtorEq, Nat.reduceAdd, Nat.reduceSub, Nat.reduceLeDiff, Nat.reduceLT, Int.reduceLT, Int.reduceLE, Int.reduceEq, Int.reduceNeg, Nat.reduceMul, Int.reduceAdd, Int.reduceToNat, *])))
    | (with_reducible refine branch_t ?_; (try simp (maxSteps := 1000000) (disch := omega) only [push_cast, go_sem, Nat.reduceEqDiff, ↓reduceIte, reduceCtorEq, Nat.reduceAdd, Nat.reduceSub, Nat.reduceLeDiff, Nat.reduceLT, Int.reduceLT, Int.reduceLE, Int.reduceEq, Int.reduceNeg, Nat.reduceMul, Int.reduceAdd, Int.reduceToNat, *]))
    | (with_reducible refine branch_f ?_; (try simp (maxSteps := 1000000) (disch := omega) only [push_cast, go_sem, Nat.reduceEqDiff, ↓reduceIte, reduceCtorEq, Nat.reduceAdd, Nat.reduceSub, Nat.reduceLeDiff, Nat.reduceLT, Int.reduceLT, Int.reduceLE, Int.reduceEq, Int.reduceNeg, Nat.reduceMul, Int.reduceAdd, Int.reduceToNat, *]))
    | (with_reducible refine cond_split ?_ ?_)
    | (with_reducible refine guard_split ?_ ?_)
    | ((with_reducible refine drw_open 0 ?_); simp (maxSteps := 1000000) (disch := omega) only [push_cast, go_sem, Nat.reduceEqDiff, ↓reduceIte, reduceCtorEq, Nat.reduceAdd, Nat.reduceSub, Nat.reduceLeDiff, Nat.reduceLT, Int.reduceLT, Int.reduceLE, Int.reduceEq, Int.reduceNeg, Nat.reduceMul, Int.reduceAdd, Int.reduceToNat, *]; (with_reducible refine drw_id ?_))
    | ((with_reducible refine drw_open 1 ?_); simp (maxSteps := 1000000) (disch := omega) only [push_cast, go_sem, Nat.reduceEqDiff, ↓reduceIte, reduceCtorEq, Nat.reduceAdd, Nat.reduceSub, Nat.reduceLeDiff, Nat.reduceLT, Int.reduceLT, Int.reduceLE, Int.reduceEq, Int.reduceNeg, Nat.reduceMul, Int.reduceAdd, Int.reduceToNat, *]; (with_reducible refine drw_id ?_))
    | ((with_reducible refine drw_open 2 ?_); simp (maxSteps := 1000000) (disch := omega) only [push_cast, go_sem, Nat.reduceEqDiff, ↓reduceIte, reduceCtorEq, Nat.reduceAdd, Nat.reduceSub, Nat.reduceLeDiff, Nat.reduceLT, Int.reduceLT, Int.reduceLE, Int.reduceEq, Int.reduceNeg, Nat.reduceMul, Int.reduceAdd, Int.reduceToNat, *]; (with_reducible refine drw_id ?_))
    | ((with_reducible refine drw_intro ?_ ?_); (focus decide +kernel); (try simp (maxSteps := 1000000) (disch := omega) only [push_cast, go_sem, Nat.reduceEqDiff, ↓reduceIte, reduceCtorEq, Nat.reduceAdd, Nat.reduceSub, Nat.reduceLeDiff, Nat.reduceLT, Int.reduceLT, Int.reduceLE, Int.reduceEq, Int.reduceNeg, Nat.reduceMul, Int.reduceAdd, Int.reduceToNat, *]))
    | (with_reducible refine still_split ?_ ?_)
    | omega)
    · exact bdL_iff.2 fun v hv => by
        rcases List.mem_append.1 hv with hv | hv
        · obtain ⟨r, _, rfl⟩ := List.mem_map.1 hv; simp [encA_bd]
        · obtain rfl := List.mem_singleton.1 hv; simp [encA_bd]
    · have : List.take (l.length + 1) (l.map encA ++ [encA r]) = (l ++ [r] ++ l.drop l.length).map encA := by
        rw [List.take_of_length_le (by simp)]; simp
      rw [this]
  · have := insert_spec0 (els := l.map encA) (x := encA r) (i := i) (by simp; omega) (by simp; omega) (by simp [noOL_map, encA_noO]) (by simp [encA_noO])
    simpa using this
end Go.Ev

set_option linter.unusedVariables false
set_option linter.unusedSimpArgs false
namespace Go.Ev
set_option maxRecDepth 100000
set_option maxHeartbeats 0
open Go.Proofs
theorem encA_re {r : RecA} {cs : List AV} : reCells (encA r) cs = .agg cs := rfl
attribute [go_sem ↓] encA_re
def hasK (l : List RecA) (k : List UInt8) : Bool := l.any fun r => decide (r.key = k)
/-- A record comes to a table. -/
def tset (l : List RecA) (r : RecA) : List RecA :=
  if hasK l r.key = true then (if r.gone = true then l.eraseIdx (lb l r.key) else l.set (lb l r.key) r) else if r.gone = true then l else l.take (lb l r.key) ++ [r] ++ l.drop (lb l r.key)
theorem at_is {nx : Int} {l : List RecA} {k : List UInt8} (hs : SortedK l) (hl : l.length ≤ 140737488355328) {b : Bool} (hb : hasK l k = b) : Spec Try.prog 46 [.optr (.agg [.int .i64 nx, .olst 5 (l.map encA)]) 0, .str (ofL k)] (.tup [.int .i64 (lb l k), .bool b]) [.optr (.agg [.int .i64 nx, .olst 5 (l.map encA)]) 0, .str (ofL k)] := hb ▸ at_spec nx l k hs hl
theorem hasK_lb {l : List RecA} {k : List UInt8} (hs : SortedK l) (h : hasK l k = true) : ∃ hi : lb l k < l.length, l[lb l k].key = k := by
  obtain ⟨r, hr, he⟩ := List.any_eq_true.1 h
  obtain ⟨j, hj, rfl⟩ := List.mem_iff_getElem.1 hr
  have he : l[j].key = k := by simpa using he
  rcases Nat.lt_trichotomy j (lb l k) with h1 | h1 | h1
  · have := lb_lt hj h1; rw [he, bl_irrefl] at this; cases this
  · subst h1; exact ⟨hj, he⟩
  · have hlt : lb l k < l.length := by omega
    have h2 := List.pairwise_iff_getElem.1 hs (lb l k) j hlt hj h1
    have h3 := lb_ge hs hlt (Nat.le_refl _)
    rw [he] at h2; rw [h2] at h3; cases h3
theorem insert_is {l : List RecA} {r : RecA} {i : Nat} (hi : i ≤ l.length) (hl : l.length ≤ 100000) {g : Bool} (hg : r.gone = g) : Spec Try.prog 58 [.olst 5 (l.map encA), .int .i64 i, .olst 5 [.agg [.int .i64 r.off, .str (ofL r.key), .str (ofL r.val), .bool g, .int .i64 r.time]]] (.olst 5 ((l.take i ++ [r] ++ l.drop i).map encA)) [.undef, .int .i64 i, .olst 5 [encA r]] := by
  subst hg; exact insert_spec l r i hi hl
theorem set_spec (nx : Int) (l : List RecA) (r : RecA) (hs : SortedK l) (hl : l.length ≤ 10000) : Spec Try.prog 38 [.optr (.agg [.int .i64 nx, .olst 5 (l.map encA)]) 0, .agg [.int .i64 r.off, .str (ofL r.key), .str (ofL r.val), .bool r.gone, .int .i64 r.time]] (.tup []) [.optr (.agg [.int .i64 (IntKind.i64.wrap (r.off + 1)), .olst 5 ((tset l r).map encA)]) 0, .agg [.int .i64 r.off, .str (ofL r.key), .str (ofL r.val), .bool r.gone, .int .i64 r.time]] := by
  have hle := lb_le (l := l) (k := r.key)
  by_cases hb : hasK l r.key = true
  · obtain ⟨hlt, hk⟩ := hasK_lb hs hb
    refine spec_run (P := Try.prog) (f := 38) (fn := Try.f38) (by kernel_rfl) (by kernel_rfl) rfl (by simp [Try.f38]) ?_; simp (maxSteps := 1000000) (disch := omega) only [push_cast, go_sem, Nat.reduceEqDiff, ↓reduceIte, reduceCtorEq, Nat.reduceAdd, Nat.reduceSub, Nat.reduceLeDiff, Nat.reduceLT, Int.reduceLT, Int.reduceLE, Int.reduceEq, Int.reduceNeg, Nat.reduceMul, Int.reduceAdd, Int.reduceToNat, Try.f38, *]
    repeat' (first
    | with_reducible refine And.intro ?_ ?_
    | (with_reducible intro hx; (try simp only [false_dec, true_dec, Int.ofNat_inj, gt_iff_lt, ge_iff_le, decide_eq_true_eq, decide_eq_false_iff_not, Bool.not_eq_true', Bool.not_eq_false', Bool.and_eq_true, Bool.or_eq_false_iff, ne_eq, Classical.not_not] at hx); (first | (exfalso; omega) | (try simp (maxSteps := 1000000) (disch := omega) only [push_cast, go_sem, Nat.reduceEqDiff, ↓reduceIte, reduceCtorEq, Nat.reduceAdd, Nat.reduceSub, Nat.reduceLeDiff, Nat.reduceLT, Int.reduceLT, Int.reduceLE, Int.reduceEq, Int.reduceNeg, Nat.reduceMul, Int.reduceAdd, Int.reduceToNat, *])))
    | (with_reducible refine branch_t ?_; (try simp (maxSteps := 1000000) (disch := omega) only [push_cast, go_sem, Nat.reduceEqDiff, ↓reduceIte, reduceCtorEq, Nat.reduceAdd, Nat.reduceSub, Nat.reduceLeDiff, Nat.reduceLT, Int.reduceLT, Int.reduceLE, Int.reduceEq, Int.reduceNeg, Nat.reduceMul, Int.reduceAdd, Int.reduceToNat, *]))
    | (with_reducible refine branch_f ?_; (try simp (maxSteps := 1000000) (disch := omega) only [push_cast, go_sem, Nat.reduceEqDiff, ↓reduceIte, reduceCtorEq, Nat.reduceAdd, Nat.reduceSub, Nat.reduceLeDiff, Nat.reduceLT, Int.reduceLT, Int.reduceLE, Int.reduceEq, Int.reduceNeg, Nat.reduceMul, Int.reduceAdd, Int.reduceToNat, *]))
    | (with_reducible refine cond_split ?_ ?_)
    | (with_reducible refine guard_split ?_ ?_)
    | ((with_reducible refine drw_open 0 ?_); simp (maxSteps := 1000000) (disch := omega) only [push_cast, go_sem, Nat.reduceEqDiff, ↓reduceIte, reduceCtorEq, Nat.reduceAdd, Nat.reduceSub, Nat.reduceLeDiff, Nat.reduceLT, Int.reduceLT, Int.reduceLE, Int.reduceEq, Int.reduceNeg, Nat.reduceMul, Int.reduceAdd, Int.reduceToNat, *]; (with_reducible refine drw_id ?_))
    | ((with_reducible refine drw_open 1 ?_); simp (maxSteps := 1000000) (disch := omega) only [push_cast, go_sem, Nat.reduceEqDiff, ↓reduceIte, reduceCtorEq, Nat.reduceAdd, Nat.reduceSub, Nat.reduceLeDiff, Nat.reduceLT, Int.reduceLT, Int.reduceLE, Int.reduceEq, Int.reduceNeg, Nat.reduceMul, Int.reduceAdd, Int.reduceToNat, *]; (with_reducible refine drw_id ?_))
    | ((with_reducible refine drw_open 2 ?_); simp (maxSteps := 1000000) (disch := omega) only [push_cast, go_sem, Nat.reduceEqDiff, ↓reduceIte, reduceCtorEq, Nat.reduceAdd, Nat.reduceSub, Nat.reduceLeDiff, Nat.reduceLT, Int.reduceLT, Int.reduceLE, Int.reduceEq, Int.reduceNeg, Nat.reduceMul, Int.reduceAdd, Int.reduceToNat, *]; (with_reducible refine drw_id ?_))
    | ((with_reducible refine drw_plan pl38_0 ?_ ?_ ?_); (focus decide +kernel); (focus rfl); (try simp (maxSteps := 1000000) (disch := omega) only [push_cast, go_sem, Nat.reduceEqDiff, ↓reduceIte, reduceCtorEq, Nat.reduceAdd, Nat.reduceSub, Nat.reduceLeDiff, Nat.reduceLT, Int.reduceLT, Int.reduceLE, Int.reduceEq, Int.reduceNeg, Nat.reduceMul, Int.reduceAdd, Int.reduceToNat, *]); (fail_if_success (with_reducible change False)))
    | ((with_reducible refine drw_intro ?_ ?_); (focus decide +kernel); (try simp (maxSteps := 1000000) (disch := omega) only [push_cast, go_sem, Nat.reduceEqDiff, ↓reduceIte, reduceCtorEq, Nat.reduceAdd, Nat.reduceSub, Nat.reduceLeDiff, Nat.reduceLT, Int.reduceLT, Int.reduceLE, Int.reduceEq, Int.reduceNeg, Nat.reduceMul, Int.reduceAdd, Int.reduceToNat, *]))
    | (with_reducible refine still_split ?_ ?_)
    | ((with_reducible refine call_by2 [true] (at_is hs (by omega) hb) (by first | (refine ⟨?_, ?_, ?_, ?_⟩ <;> ((try simp (maxSteps := 1000000) (disch := omega) only [push_cast, go_sem, Nat.reduceEqDiff, ↓reduceIte, reduceCtorEq, Nat.reduceAdd, Nat.reduceSub, Nat.reduceLeDiff, Nat.reduceLT, Int.reduceLT, Int.reduceLE, Int.reduceEq, Int.reduceNeg, Nat.reduceMul, Int.reduceAdd, Int.reduceToNat, *]); (try rfl); (try omega); done)) | fail) ?_) <;> (try simp (maxSteps := 1000000) (disch := omega) only [push_cast, go_sem, Nat.reduceEqDiff, ↓reduceIte, reduceCtorEq, Nat.reduceAdd, Nat.reduceSub, Nat.reduceLeDiff, Nat.reduceLT, Int.reduceLT, Int.reduceLE, Int.reduceEq, Int.reduceNeg, Nat.reduceMul, Int.reduceAdd, Int.reduceToNat, *]))
    | ((with_reducible refine call_by2 [true] (delete_spec l (lb l r.key) hlt) (by first | (refine ⟨?_, ?_, ?_, ?_⟩ <;> ((try simp (maxSteps := 1000000) (disch := omega) only [push_cast, go_sem, Nat.reduceEqDiff, ↓reduceIte, reduceCtorEq, Nat.reduceAdd, Nat.reduceSub, Nat.reduceLeDiff, Nat.reduceLT, Int.reduceLT, Int.reduceLE, Int.reduceEq, Int.reduceNeg, Nat.reduceMul, Int.reduceAdd, Int.reduceToNat, *]); (try rfl); (try omega); done)) | fail) ?_) <;> (try simp (maxSteps := 1000000) (disch := omega) only [push_cast, go_sem, Nat.reduceEqDiff, ↓reduceIte, reduceCtorEq, Nat.reduceAdd, Nat.reduceSub, Nat.reduceLeDiff, Nat.reduceLT, Int.reduceLT, Int.reduceLE, Int.reduceEq, Int.reduceNeg, Nat.reduceMul, Int.reduceAdd, Int.reduceToNat, *]))
    | omega)
    · have : tset l r = l.eraseIdx (lb l r.key) := by simp [tset, hb, hx]
      rw [this]
    · rw [List.length_set, List.length_map]
    · refine bdL_iff.2 fun v hv => ?_
      rcases List.mem_or_eq_of_mem_set hv with hv | rfl
      · obtain ⟨x, _, rfl⟩ := List.mem_map.1 hv; simp [encA_bd]
      · exact show Bd 0 (.agg [.int .i64 r.off, .str (ofL r.key), .str (ofL r.val), .bool false, .int .i64 r.time]) from by simp [Bd, BdL]
    · have h1 : tset l r = l.set (lb l r.key) r := by simp [tset, hb, hx]
      have h2 : ((l.map encA).set (lb l r.key) (.agg [.int .i64 r.off, .str (ofL r.key), .str (ofL r.val), .bool false, .int .i64 r.time])).take l.length = (l.set (lb l r.key) r).map encA := by
        rw [List.take_of_length_le (by simp), List.map_set, encA, hx]
      rw [h1]
      exact congrArg (fun z => [AV.tup [], AV.optr (.agg [.int .i64 (IntKind.i64.wrap (r.off + 1)), .olst 5 z]) 0, .agg [.int .i64 r.off, .str (ofL r.key), .str (ofL r.val), .bool false, .int .i64 r.time]]) h2
  · have hb : hasK l r.key = false := by simpa using hb
    refine spec_run (P := Try.prog) (f := 38) (fn := Try.f38) (by kernel_rfl) (by kernel_rfl) rfl (by simp [Try.f38]) ?_; simp (maxSteps := 1000000) (disch := omega) only [push_cast, go_sem, Nat.reduceEqDiff, ↓reduceIte, reduceCtorEq, Nat.reduceAdd, Nat.reduceSub, Nat.reduceLeDiff, Nat.reduceLT, Int.reduceLT, Int.reduceLE, Int.reduceEq, Int.reduceNeg, Nat.reduceMul, Int.reduceAdd, Int.reduceToNat, Try.f38, *]
    repeat' (first
    | with_reducible refine And.intro ?_ ?_
    | (with_reducible intro hx; (try simp only [false_dec, true_dec, Int.ofNat_inj, gt_iff_lt, ge_iff_le, decide_eq_true_eq, decide_eq_false_iff_not, Bool.not_eq_true', Bool.not_eq_false', Bool.and_eq_true, Bool.or_eq_false_iff, ne_eq, Classical.not_not] at hx); (first | (exfalso; omega) | (try simp (maxSteps := 1000000) (disch := omega) only [push_cast, go_sem, Nat.reduceEqDiff, ↓reduceIte, reduceCtorEq, Nat.reduceAdd, Nat.reduceSub, Nat.reduceLeDiff, Nat.reduceLT, Int.reduceLT, Int.reduceLE, Int.reduceEq, Int.reduceNeg, Nat.reduceMul, Int.reduceAdd, Int.reduceToNat, *])))
    | (with_reducible refine branch_t ?_; (try simp (maxSteps := 1000000) (disch := omega) only [push_cast, go_sem, Nat.reduceEqDiff, ↓reduceIte, reduceCtorEq, Nat.reduceAdd, Nat.reduceSub, Nat.reduceLeDiff, Nat.reduceLT, Int.reduceLT, Int.reduceLE, Int.reduceEq, Int.reduceNeg, Nat.reduceMul, Int.reduceAdd, Int.reduceToNat, *]))
    | (with_reducible refine branch_f ?_; (try simp (maxSteps := 1000000) (disch := omega) only [push_cast, go_sem, Nat.reduceEqDiff, ↓reduceIte, reduceCtorEq, Nat.reduceAdd, Nat.reduceSub, Nat.reduceLeDiff, Nat.reduceLT, Int.reduceLT, Int.reduceLE, Int.reduceEq, Int.reduceNeg, Nat.reduceMul, Int.reduceAdd, Int.reduceToNat, *]))
    | (with_reducible refine cond_split ?_ ?_)
    | (with_reducible refine guard_split ?_ ?_)
    | ((with_reducible refine drw_open 0 ?_); simp (maxSteps := 1000000) (disch := omega) only [push_cast, go_sem, Nat.reduceEqDiff, ↓reduceIte, reduceCtorEq, Nat.reduceAdd, Nat.reduceSub, Nat.reduceLeDiff, Nat.reduceLT, Int.reduceLT, Int.reduceLE, Int.reduceEq, Int.reduceNeg, Nat.reduceMul, Int.reduceAdd, Int.reduceToNat, *]; (with_reducible refine drw_id ?_))
    | ((with_reducible refine drw_open 1 ?_); simp (maxSteps := 1000000) (disch := omega) only [push_cast, go_sem, Nat.reduceEqDiff, ↓reduceIte, reduceCtorEq, Nat.reduceAdd, Nat.reduceSub, Nat.reduceLeDiff, Nat.reduceLT, Int.reduceLT, Int.reduceLE, Int.reduceEq, Int.reduceNeg, Nat.reduceMul, Int.reduceAdd, Int.reduceToNat, *]; (with_reducible refine drw_id ?_))
    | ((with_reducible refine drw_open 2 ?_); simp (maxSteps := 1000000) (disch := omega) only [push_cast, go_sem, Nat.reduceEqDiff, ↓reduceIte, reduceCtorEq, Nat.reduceAdd, Nat.reduceSub, Nat.reduceLeDiff, Nat.reduceLT, Int.reduceLT, Int.reduceLE, Int.reduceEq, Int.reduceNeg, Nat.reduceMul, Int.reduceAdd, Int.reduceToNat, *]; (with_reducible refine drw_id ?_))
    | ((with_reducible refine drw_plan pl38_0 ?_ ?_ ?_); (focus decide +kernel); (focus rfl); (try simp (maxSteps := 1000000) (disch := omega) only [push_cast, go_sem, Nat.reduceEqDiff, ↓reduceIte, reduceCtorEq, Nat.reduceAdd, Nat.reduceSub, Nat.reduceLeDiff, Nat.reduceLT, Int.reduceLT, Int.reduceLE, Int.reduceEq, Int.reduceNeg, Nat.reduceMul, Int.reduceAdd, Int.reduceToNat, *]); (fail_if_success (with_reducible change False)))
    | ((with_reducible refine drw_intro ?_ ?_); (focus decide +kernel); (try simp (maxSteps := 1000000) (disch := omega) only [push_cast, go_sem, Nat.reduceEqDiff, ↓reduceIte, reduceCtorEq, Nat.reduceAdd, Nat.reduceSub, Nat.reduceLeDiff, Nat.reduceLT, Int.reduceLT, Int.reduceLE, Int.reduceEq, Int.reduceNeg, Nat.reduceMul, Int.reduceAdd, Int.reduceToNat, *]))
    | (with_reducible refine still_split ?_ ?_)
    | ((with_reducible refine call_by2 [true] (at_is hs (by omega) hb) (by first | (refine ⟨?_, ?_, ?_, ?_⟩ <;> ((try simp (maxSteps := 1000000) (disch := omega) only [push_cast, go_sem, Nat.reduceEqDiff, ↓reduceIte, reduceCtorEq, Nat.reduceAdd, Nat.reduceSub, Nat.reduceLeDiff, Nat.reduceLT, Int.reduceLT, Int.reduceLE, Int.reduceEq, Int.reduceNeg, Nat.reduceMul, Int.reduceAdd, Int.reduceToNat, *]); (try rfl); (try omega); done)) | fail) ?_) <;> (try simp (maxSteps := 1000000) (disch := omega) only [push_cast, go_sem, Nat.reduceEqDiff, ↓reduceIte, reduceCtorEq, Nat.reduceAdd, Nat.reduceSub, Nat.reduceLeDiff, Nat.reduceLT, Int.reduceLT, Int.reduceLE, Int.reduceEq, Int.reduceNeg, Nat.reduceMul, Int.reduceAdd, Int.reduceToNat, *]))
    | ((with_reducible refine call_by2 [true, false, true] (insert_is (l := l) (r := r) (i := lb l r.key) hle (by omega) (g := false) ?_) (by first | (refine ⟨?_, ?_, ?_, ?_⟩ <;> ((try simp (maxSteps := 1000000) (disch := omega) only [push_cast, go_sem, Nat.reduceEqDiff, ↓reduceIte, reduceCtorEq, Nat.reduceAdd, Nat.reduceSub, Nat.reduceLeDiff, Nat.reduceLT, Int.reduceLT, Int.reduceLE, Int.reduceEq, Int.reduceNeg, Nat.reduceMul, Int.reduceAdd, Int.reduceToNat, *]); (try rfl); (try omega); done)) | fail) ?_) <;> (try simp (maxSteps := 1000000) (disch := omega) only [push_cast, go_sem, Nat.reduceEqDiff, ↓reduceIte, reduceCtorEq, Nat.reduceAdd, Nat.reduceSub, Nat.reduceLeDiff, Nat.reduceLT, Int.reduceLT, Int.reduceLE, Int.reduceEq, Int.reduceNeg, Nat.reduceMul, Int.reduceAdd, Int.reduceToNat, *]))
    | omega)
    · have h1 : tset l r = l.take (lb l r.key) ++ [r] ++ l.drop (lb l r.key) := by simp [tset, hb, hx]
      have h2 : List.take ((l.take (lb l r.key)).length + 1 + (l.drop (lb l r.key)).length) (l.take (lb l r.key) ++ [r] ++ l.drop (lb l r.key)) = l.take (lb l r.key) ++ [r] ++ l.drop (lb l r.key) := List.take_of_length_le (by simp; omega)
      rw [h1, h2]
    · have h1 : tset l r = l := by simp [tset, hb, hx]
      rw [h1]
/-! What a table is like behind a record. -/
theorem tset_len {l : List RecA} {r : RecA} : (tset l r).length ≤ l.length + 1 := by
  unfold tset
  split
  · split
    · exact Nat.le_trans (List.length_eraseIdx_le ..) (by omega)
    · simp
  · split
    · omega
    · simp; omega
theorem set_sorted {l : List RecA} {r : RecA} {p : Nat} (hs : SortedK l) (hlt : p < l.length) (hk : l[p].key = r.key) : SortedK (l.set p r) := by
  refine List.pairwise_iff_getElem.2 fun i j hi hj hij => ?_
  have hi' : i < l.length := by simpa using hi
  have hj' : j < l.length := by simpa using hj
  have h0 := List.pairwise_iff_getElem.1 hs i j hi' hj' hij
  rw [List.getElem_set, List.getElem_set]
  by_cases e : p = i
  · subst e
    rw [if_pos rfl, if_neg (by omega), ← hk]; exact h0
  · rw [if_neg e]
    by_cases e2 : p = j
    · subst e2
      rw [if_pos rfl, ← hk]; exact h0
    · rw [if_neg e2]; exact h0
theorem tset_sorted {l : List RecA} {r : RecA} (hs : SortedK l) : SortedK (tset l r) := by
  unfold tset
  split
  · rename_i hb
    obtain ⟨hlt, hk⟩ := hasK_lb hs hb
    split
    · exact hs.sublist (List.eraseIdx_sublist ..)
    · exact set_sorted hs hlt hk
  · rename_i hb
    split
    · exact hs
    · have hle := lb_le (l := l) (k := r.key)
      have hno : ∀ x ∈ l, x.key ≠ r.key := fun x hx he => hb (List.any_eq_true.2 ⟨x, hx, by simpa using he⟩)
      have h1 : ∀ x ∈ l.take (lb l r.key), Op.bytesLess x.key r.key = true := fun x hx => by
        obtain ⟨j, hj, rfl⟩ := List.mem_iff_getElem.1 hx
        simp only [List.length_take] at hj
        rw [List.getElem_take]
        exact lb_lt (by omega) (by omega)
      have h2 : ∀ x ∈ l.drop (lb l r.key), Op.bytesLess r.key x.key = true := fun x hx => by
        obtain ⟨j, hj, rfl⟩ := List.mem_iff_getElem.1 hx
        simp only [List.length_drop] at hj
        rw [List.getElem_drop]
        have h3 := lb_ge hs (j := lb l r.key + j) (k := r.key) (by omega) (by omega)
        cases h4 : Op.bytesLess r.key l[lb l r.key + j].key with
        | true => rfl
        | false => exact absurd (bl_eq h3 h4) (hno _ (List.getElem_mem _))
      unfold SortedK
      rw [List.pairwise_append, List.pairwise_append]
      refine ⟨⟨hs.sublist (List.take_sublist ..), by simp, fun x hx y hy => ?_⟩, hs.sublist (List.drop_sublist ..), fun x hx y hy => ?_⟩
      · obtain rfl := List.mem_singleton.1 hy; exact h1 x hx
      · rcases List.mem_append.1 hx with hx | hx
        · exact bl_trans (h1 x hx) (h2 y hy)
        · obtain rfl := List.mem_singleton.1 hx; exact h2 y hy
end Go.Ev

set_option linter.unusedVariables false
set_option linter.unusedSimpArgs false
namespace Go.Ev
set_option maxRecDepth 100000
set_option maxHeartbeats 0
open Go.Proofs
/-- Do offsets rise? -/
def riseL : List RecA → Bool
  | a :: b :: l => decide (a.off < b.off) && riseL (b :: l)
  | _ => true
theorem riseL_drop {l : List RecA} {i : Nat} (h : i + 1 < l.length) : riseL (l.drop i) = (decide (l[i].off < l[i + 1].off) && riseL (l.drop (i + 1))) := by
  rw [List.drop_eq_getElem_cons (by omega : i < l.length), List.drop_eq_getElem_cons h]; rfl
theorem riseL_end {l : List RecA} {i : Nat} (h : ¬ i + 1 < l.length) : riseL (l.drop i) = true := by
  have : (l.drop i).length ≤ 1 := by simp; omega
  match hd : l.drop i with
  | [] => rfl
  | [_] => rfl
  | _ :: _ :: _ => rw [hd] at this; simp at this
theorem riseL_pred {l : List RecA} {i : Nat} (h0 : ¬ (i : Int) = 0) (h : i < l.length) : riseL (l.drop (i - 1)) = (decide (l[i - 1].off < l[i].off) && riseL (l.drop i)) := by
  obtain ⟨k, rfl⟩ : ∃ k, i = k + 1 := ⟨i - 1, by omega⟩
  exact riseL_drop h
theorem rise_spec (fl : Bool) (f : Int) (l : List RecA) (hf : ∀ h : 0 < l.length, f ≤ l[0].off) : Spec Try.prog 37 [.int .i64 f, .lst fl 5 (l.map encA)] (.bool (riseL l)) [.int .i64 f, .lst fl 5 (l.map encA)] := by
  refine spec_run (P := Try.prog) (f := 37) (fn := Try.f37) (by kernel_rfl) (by kernel_rfl) rfl (by simp [Try.f37]) ?_; simp (maxSteps := 1000000) (disch := omega) only [push_cast, go_sem, Nat.reduceEqDiff, ↓reduceIte, reduceCtorEq, Nat.reduceAdd, Nat.reduceSub, Nat.reduceLeDiff, Nat.reduceLT, Int.reduceLT, Int.reduceLE, Int.reduceEq, Int.reduceNeg, Nat.reduceMul, Int.reduceAdd, Int.reduceToNat, Try.f37, *]
  repeat' (first
    | with_reducible refine And.intro ?_ ?_
    | (with_reducible intro hx; (try simp only [false_dec, true_dec, Int.ofNat_inj, gt_iff_lt, ge_iff_le, decide_eq_true_eq, decide_eq_false_iff_not, Bool.not_eq_true', Bool.not_eq_false', Bool.and_eq_true, Bool.or_eq_false_iff, ne_eq, Classical.not_not] at hx); (first | (exfalso; omega) | (try simp (maxSteps := 1000000) (disch := omega) only [push_cast, go_sem, Nat.reduceEqDiff, ↓reduceIte, reduceCtorEq, Nat.reduceAdd, Nat.reduceSub, Nat.reduceLeDiff, Nat.reduceLT, Int.reduceLT, Int.reduceLE, Int.reduceEq, Int.reduceNeg, Nat.reduceMul, Int.reduceAdd, Int.reduceToNat, *])))
    | (with_reducible refine branch_t ?_; (try simp (maxSteps := 1000000) (disch := omega) only [push_cast, go_sem, Nat.reduceEqDiff, ↓reduceIte, reduceCtorEq, Nat.reduceAdd, Nat.reduceSub, Nat.reduceLeDiff, Nat.reduceLT, Int.reduceLT, Int.reduceLE, Int.reduceEq, Int.reduceNeg, Nat.reduceMul, Int.reduceAdd, Int.reduceToNat, *]))
    | (with_reducible refine branch_f ?_; (try simp (maxSteps := 1000000) (disch := omega) only [push_cast, go_sem, Nat.reduceEqDiff, ↓reduceIte, reduceCtorEq, Nat.reduceAdd, Nat.reduceSub, Nat.reduceLeDiff, Nat.reduceLT, Int.reduceLT, Int.reduceLE, Int.reduceEq, Int.reduceNeg, Nat.reduceMul, Int.reduceAdd, Int.reduceToNat, *]))
    | (with_reducible refine cond_split ?_ ?_)
    | (with_reducible refine guard_split ?_ ?_)
    | ((with_reducible refine drw_open 0 ?_); simp (maxSteps := 1000000) (disch := omega) only [push_cast, go_sem, Nat.reduceEqDiff, ↓reduceIte, reduceCtorEq, Nat.reduceAdd, Nat.reduceSub, Nat.reduceLeDiff, Nat.reduceLT, Int.reduceLT, Int.reduceLE, Int.reduceEq, Int.reduceNeg, Nat.reduceMul, Int.reduceAdd, Int.reduceToNat, *]; (with_reducible refine drw_id ?_))
    | ((with_reducible refine drw_open 1 ?_); simp (maxSteps := 1000000) (disch := omega) only [push_cast, go_sem, Nat.reduceEqDiff, ↓reduceIte, reduceCtorEq, Nat.reduceAdd, Nat.reduceSub, Nat.reduceLeDiff, Nat.reduceLT, Int.reduceLT, Int.reduceLE, Int.reduceEq, Int.reduceNeg, Nat.reduceMul, Int.reduceAdd, Int.reduceToNat, *]; (with_reducible refine drw_id ?_))
    | ((with_reducible refine drw_open 2 ?_); simp (maxSteps := 1000000) (disch := omega) only [push_cast, go_sem, Nat.reduceEqDiff, ↓reduceIte, reduceCtorEq, Nat.reduceAdd, Nat.reduceSub, Nat.reduceLeDiff, Nat.reduceLT, Int.reduceLT, Int.reduceLE, Int.reduceEq, Int.reduceNeg, Nat.reduceMul, Int.reduceAdd, Int.reduceToNat, *]; (with_reducible refine drw_id ?_))
    | ((with_reducible refine drw_intro ?_ ?_); (focus decide +kernel); (try simp (maxSteps := 1000000) (disch := omega) only [push_cast, go_sem, Nat.reduceEqDiff, ↓reduceIte, reduceCtorEq, Nat.reduceAdd, Nat.reduceSub, Nat.reduceLeDiff, Nat.reduceLT, Int.reduceLT, Int.reduceLE, Int.reduceEq, Int.reduceNeg, Nat.reduceMul, Int.reduceAdd, Int.reduceToNat, *]))
    | (with_reducible refine still_split ?_ ?_)
    | omega)
  refine loop_by (σ := Nat) (fun i N => ([(9, .int .i64 i), (8, .int .i64 l.length), (7, .lst fl 5 (l.map encA)), (0, .int .i64 f), (1, .lst fl 5 (l.map encA))], []))
    (fun i => i ≤ l.length ∧ riseL (l.drop (i - 1)) = riseL l) (fun i => l.length - i) 0 _ (by simp) (by simp (maxSteps := 1000000) (disch := omega) only [push_cast, go_sem, Nat.reduceEqDiff, ↓reduceIte, reduceCtorEq, Nat.reduceAdd, Nat.reduceSub, Nat.reduceLeDiff, Nat.reduceLT, Int.reduceLT, Int.reduceLE, Int.reduceEq, Int.reduceNeg, Nat.reduceMul, Int.reduceAdd, Int.reduceToNat, *]) (by simp (maxSteps := 1000000) (disch := omega) only [push_cast, go_sem, Nat.reduceEqDiff, ↓reduceIte, reduceCtorEq, Nat.reduceAdd, Nat.reduceSub, Nat.reduceLeDiff, Nat.reduceLT, Int.reduceLT, Int.reduceLE, Int.reduceEq, Int.reduceNeg, Nat.reduceMul, Int.reduceAdd, Int.reduceToNat, *]) (Nat.le_refl _) ?_
  rintro i N hN ⟨hi, hinv⟩
  dsimp only at *
  simp (maxSteps := 1000000) (disch := omega) only [push_cast, go_sem, Nat.reduceEqDiff, ↓reduceIte, reduceCtorEq, Nat.reduceAdd, Nat.reduceSub, Nat.reduceLeDiff, Nat.reduceLT, Int.reduceLT, Int.reduceLE, Int.reduceEq, Int.reduceNeg, Nat.reduceMul, Int.reduceAdd, Int.reduceToNat, *]
  repeat' (first
    | with_reducible refine And.intro ?_ ?_
    | (with_reducible intro hx; (try simp only [false_dec, true_dec, Int.ofNat_inj, gt_iff_lt, ge_iff_le, decide_eq_true_eq, decide_eq_false_iff_not, Bool.not_eq_true', Bool.not_eq_false', Bool.and_eq_true, Bool.or_eq_false_iff, ne_eq, Classical.not_not] at hx); (first | (exfalso; omega) | (try simp (maxSteps := 1000000) (disch := omega) only [push_cast, go_sem, Nat.reduceEqDiff, ↓reduceIte, reduceCtorEq, Nat.reduceAdd, Nat.reduceSub, Nat.reduceLeDiff, Nat.reduceLT, Int.reduceLT, Int.reduceLE, Int.reduceEq, Int.reduceNeg, Nat.reduceMul, Int.reduceAdd, Int.reduceToNat, *])))
    | (with_reducible refine branch_t ?_; (try simp (maxSteps := 1000000) (disch := omega) only [push_cast, go_sem, Nat.reduceEqDiff, ↓reduceIte, reduceCtorEq, Nat.reduceAdd, Nat.reduceSub, Nat.reduceLeDiff, Nat.reduceLT, Int.reduceLT, Int.reduceLE, Int.reduceEq, Int.reduceNeg, Nat.reduceMul, Int.reduceAdd, Int.reduceToNat, *]))
    | (with_reducible refine branch_f ?_; (try simp (maxSteps := 1000000) (disch := omega) only [push_cast, go_sem, Nat.reduceEqDiff, ↓reduceIte, reduceCtorEq, Nat.reduceAdd, Nat.reduceSub, Nat.reduceLeDiff, Nat.reduceLT, Int.reduceLT, Int.reduceLE, Int.reduceEq, Int.reduceNeg, Nat.reduceMul, Int.reduceAdd, Int.reduceToNat, *]))
    | (with_reducible refine cond_split ?_ ?_)
    | (with_reducible refine guard_split ?_ ?_)
    | ((with_reducible refine drw_open 0 ?_); simp (maxSteps := 1000000) (disch := omega) only [push_cast, go_sem, Nat.reduceEqDiff, ↓reduceIte, reduceCtorEq, Nat.reduceAdd, Nat.reduceSub, Nat.reduceLeDiff, Nat.reduceLT, Int.reduceLT, Int.reduceLE, Int.reduceEq, Int.reduceNeg, Nat.reduceMul, Int.reduceAdd, Int.reduceToNat, *]; (with_reducible refine drw_id ?_))
    | ((with_reducible refine drw_open 1 ?_); simp (maxSteps := 1000000) (disch := omega) only [push_cast, go_sem, Nat.reduceEqDiff, ↓reduceIte, reduceCtorEq, Nat.reduceAdd, Nat.reduceSub, Nat.reduceLeDiff, Nat.reduceLT, Int.reduceLT, Int.reduceLE, Int.reduceEq, Int.reduceNeg, Nat.reduceMul, Int.reduceAdd, Int.reduceToNat, *]; (with_reducible refine drw_id ?_))
    | ((with_reducible refine drw_open 2 ?_); simp (maxSteps := 1000000) (disch := omega) only [push_cast, go_sem, Nat.reduceEqDiff, ↓reduceIte, reduceCtorEq, Nat.reduceAdd, Nat.reduceSub, Nat.reduceLeDiff, Nat.reduceLT, Int.reduceLT, Int.reduceLE, Int.reduceEq, Int.reduceNeg, Nat.reduceMul, Int.reduceAdd, Int.reduceToNat, *]; (with_reducible refine drw_id ?_))
    | ((with_reducible refine drw_intro ?_ ?_); (focus decide +kernel); (try simp (maxSteps := 1000000) (disch := omega) only [push_cast, go_sem, Nat.reduceEqDiff, ↓reduceIte, reduceCtorEq, Nat.reduceAdd, Nat.reduceSub, Nat.reduceLeDiff, Nat.reduceLT, Int.reduceLT, Int.reduceLE, Int.reduceEq, Int.reduceNeg, Nat.reduceMul, Int.reduceAdd, Int.reduceToNat, *]))
    | (with_reducible refine still_split ?_ ?_)
    | omega)
  · rename_i hi0
    have h0 : i = 0 := by omega
    subst h0
    refine loop_end 1 _ (by omega) ⟨by omega, by simp⟩ (by omega) (by simp (maxSteps := 1000000) (disch := omega) only [push_cast, go_sem, Nat.reduceEqDiff, ↓reduceIte, reduceCtorEq, Nat.reduceAdd, Nat.reduceSub, Nat.reduceLeDiff, Nat.reduceLT, Int.reduceLT, Int.reduceLE, Int.reduceEq, Int.reduceNeg, Nat.reduceMul, Int.reduceAdd, Int.reduceToNat, *]) (by simp (maxSteps := 1000000) (disch := omega) only [push_cast, go_sem, Nat.reduceEqDiff, ↓reduceIte, reduceCtorEq, Nat.reduceAdd, Nat.reduceSub, Nat.reduceLeDiff, Nat.reduceLT, Int.reduceLT, Int.reduceLE, Int.reduceEq, Int.reduceNeg, Nat.reduceMul, Int.reduceAdd, Int.reduceToNat, *]) (Nat.le_refl _)
  · rename_i hi0
    have h0 : i = 0 := by omega
    subst h0
    have := hf (by omega)
    omega
  all_goals first
    | (have he := riseL_pred (l := l) (i := i) (by assumption) (by assumption)
       refine loop_end (i + 1) _ (by omega) ⟨by omega, ?_⟩ (by omega) (by simp (maxSteps := 1000000) (disch := omega) only [push_cast, go_sem, Nat.reduceEqDiff, ↓reduceIte, reduceCtorEq, Nat.reduceAdd, Nat.reduceSub, Nat.reduceLeDiff, Nat.reduceLT, Int.reduceLT, Int.reduceLE, Int.reduceEq, Int.reduceNeg, Nat.reduceMul, Int.reduceAdd, Int.reduceToNat, *]) (by simp (maxSteps := 1000000) (disch := omega) only [push_cast, go_sem, Nat.reduceEqDiff, ↓reduceIte, reduceCtorEq, Nat.reduceAdd, Nat.reduceSub, Nat.reduceLeDiff, Nat.reduceLT, Int.reduceLT, Int.reduceLE, Int.reduceEq, Int.reduceNeg, Nat.reduceMul, Int.reduceAdd, Int.reduceToNat, *]) (Nat.le_refl _)
       grind)
    | (have he := riseL_pred (l := l) (i := i) (by assumption) (by assumption)
       grind)
    | (have he := riseL_end (l := l) (i := i - 1) (by omega)
       grind)
theorem rrise_spec (fl : Bool) (l : List RecA) : Spec Try.prog 49 [.lst fl 5 (l.map encA)] (.bool (riseL l)) [.lst fl 5 (l.map encA)] := by
  refine spec_run (P := Try.prog) (f := 49) (fn := Try.f49) (by kernel_rfl) (by kernel_rfl) rfl (by simp [Try.f49]) ?_; simp (maxSteps := 1000000) (disch := omega) only [push_cast, go_sem, Nat.reduceEqDiff, ↓reduceIte, reduceCtorEq, Nat.reduceAdd, Nat.reduceSub, Nat.reduceLeDiff, Nat.reduceLT, Int.reduceLT, Int.reduceLE, Int.reduceEq, Int.reduceNeg, Nat.reduceMul, Int.reduceAdd, Int.reduceToNat, Try.f49, *]
  repeat' (first
    | with_reducible refine And.intro ?_ ?_
    | (with_reducible intro hx; (try simp only [false_dec, true_dec, Int.ofNat_inj, gt_iff_lt, ge_iff_le, decide_eq_true_eq, decide_eq_false_iff_not, Bool.not_eq_true', Bool.not_eq_false', Bool.and_eq_true, Bool.or_eq_false_iff, ne_eq, Classical.not_not] at hx); (first | (exfalso; omega) | (try simp (maxSteps := 1000000) (disch := omega) only [push_cast, go_sem, Nat.reduceEqDiff, ↓reduceIte, reduceCtorEq, Nat.reduceAdd, Nat.reduceSub, Nat.reduceLeDiff, Nat.reduceLT, Int.reduceLT, Int.reduceLE, Int.reduceEq, Int.reduceNeg, Nat.reduceMul, Int.reduceAdd, Int.reduceToNat, *])))
    | (with_reducible refine branch_t ?_; (try simp (maxSteps := 1000000) (disch := omega) only [push_cast, go_sem, Nat.reduceEqDiff, ↓reduceIte, reduceCtorEq, Nat.reduceAdd, Nat.reduceSub, Nat.reduceLeDiff, Nat.reduceLT, Int.reduceLT, Int.reduceLE, Int.reduceEq, Int.reduceNeg, Nat.reduceMul, Int.reduceAdd, Int.reduceToNat, *]))
    | (with_reducible refine branch_f ?_; (try simp (maxSteps := 1000000) (disch := omega) only [push_cast, go_sem, Nat.reduceEqDiff, ↓reduceIte, reduceCtorEq, Nat.reduceAdd, Nat.reduceSub, Nat.reduceLeDiff, Nat.reduceLT, Int.reduceLT, Int.reduceLE, Int.reduceEq, Int.reduceNeg, Nat.reduceMul, Int.reduceAdd, Int.reduceToNat, *]))
    | (with_reducible refine cond_split ?_ ?_)
    | (with_reducible refine guard_split ?_ ?_)
    | ((with_reducible refine drw_open 0 ?_); simp (maxSteps := 1000000) (disch := omega) only [push_cast, go_sem, Nat.reduceEqDiff, ↓reduceIte, reduceCtorEq, Nat.reduceAdd, Nat.reduceSub, Nat.reduceLeDiff, Nat.reduceLT, Int.reduceLT, Int.reduceLE, Int.reduceEq, Int.reduceNeg, Nat.reduceMul, Int.reduceAdd, Int.reduceToNat, *]; (with_reducible refine drw_id ?_))
    | ((with_reducible refine drw_open 1 ?_); simp (maxSteps := 1000000) (disch := omega) only [push_cast, go_sem, Nat.reduceEqDiff, ↓reduceIte, reduceCtorEq, Nat.reduceAdd, Nat.reduceSub, Nat.reduceLeDiff, Nat.reduceLT, Int.reduceLT, Int.reduceLE, Int.reduceEq, Int.reduceNeg, Nat.reduceMul, Int.reduceAdd, Int.reduceToNat, *]; (with_reducible refine drw_id ?_))
    | ((with_reducible refine drw_open 2 ?_); simp (maxSteps := 1000000) (disch := omega) only [push_cast, go_sem, Nat.reduceEqDiff, ↓reduceIte, reduceCtorEq, Nat.reduceAdd, Nat.reduceSub, Nat.reduceLeDiff, Nat.reduceLT, Int.reduceLT, Int.reduceLE, Int.reduceEq, Int.reduceNeg, Nat.reduceMul, Int.reduceAdd, Int.reduceToNat, *]; (with_reducible refine drw_id ?_))
    | ((with_reducible refine drw_intro ?_ ?_); (focus decide +kernel); (try simp (maxSteps := 1000000) (disch := omega) only [push_cast, go_sem, Nat.reduceEqDiff, ↓reduceIte, reduceCtorEq, Nat.reduceAdd, Nat.reduceSub, Nat.reduceLeDiff, Nat.reduceLT, Int.reduceLT, Int.reduceLE, Int.reduceEq, Int.reduceNeg, Nat.reduceMul, Int.reduceAdd, Int.reduceToNat, *]))
    | (with_reducible refine still_split ?_ ?_)
    | omega)
  refine loop_by (σ := Nat) (fun i N => ([(6, .int .i64 i), (5, .int .i64 l.length), (4, .lst fl 5 (l.map encA)), (0, .lst fl 5 (l.map encA))], []))
    (fun i => i ≤ l.length ∧ riseL (l.drop (i - 1)) = riseL l) (fun i => l.length - i) 0 _ (by simp) (by simp (maxSteps := 1000000) (disch := omega) only [push_cast, go_sem, Nat.reduceEqDiff, ↓reduceIte, reduceCtorEq, Nat.reduceAdd, Nat.reduceSub, Nat.reduceLeDiff, Nat.reduceLT, Int.reduceLT, Int.reduceLE, Int.reduceEq, Int.reduceNeg, Nat.reduceMul, Int.reduceAdd, Int.reduceToNat, *]) (by simp (maxSteps := 1000000) (disch := omega) only [push_cast, go_sem, Nat.reduceEqDiff, ↓reduceIte, reduceCtorEq, Nat.reduceAdd, Nat.reduceSub, Nat.reduceLeDiff, Nat.reduceLT, Int.reduceLT, Int.reduceLE, Int.reduceEq, Int.reduceNeg, Nat.reduceMul, Int.reduceAdd, Int.reduceToNat, *]) (Nat.le_refl _) ?_
  rintro i N hN ⟨hi, hinv⟩
  dsimp only at *
  simp (maxSteps := 1000000) (disch := omega) only [push_cast, go_sem, Nat.reduceEqDiff, ↓reduceIte, reduceCtorEq, Nat.reduceAdd, Nat.reduceSub, Nat.reduceLeDiff, Nat.reduceLT, Int.reduceLT, Int.reduceLE, Int.reduceEq, Int.reduceNeg, Nat.reduceMul, Int.reduceAdd, Int.reduceToNat, *]
  repeat' (first
    | with_reducible refine And.intro ?_ ?_
    | (with_reducible intro hx; (try simp only [false_dec, true_dec, Int.ofNat_inj, gt_iff_lt, ge_iff_le, decide_eq_true_eq, decide_eq_false_iff_not, Bool.not_eq_true', Bool.not_eq_false', Bool.and_eq_true, Bool.or_eq_false_iff, ne_eq, Classical.not_not] at hx); (first | (exfalso; omega) | (try simp (maxSteps := 1000000) (disch := omega) only [push_cast, go_sem, Nat.reduceEqDiff, ↓reduceIte, reduceCtorEq, Nat.reduceAdd, Nat.reduceSub, Nat.reduceLeDiff, Nat.reduceLT, Int.reduceLT, Int.reduceLE, Int.reduceEq, Int.reduceNeg, Nat.reduceMul, Int.reduceAdd, Int.reduceToNat, *])))
    | (with_reducible refine branch_t ?_; (try simp (maxSteps := 1000000) (disch := omega) only [push_cast, go_sem, Nat.reduceEqDiff, ↓reduceIte, reduceCtorEq, Nat.reduceAdd, Nat.reduceSub, Nat.reduceLeDiff, Nat.reduceLT, Int.reduceLT, Int.reduceLE, Int.reduceEq, Int.reduceNeg, Nat.reduceMul, Int.reduceAdd, Int.reduceToNat, *]))
    | (with_reducible refine branch_f ?_; (try simp (maxSteps := 1000000) (disch := omega) only [push_cast, go_sem, Nat.reduceEqDiff, ↓reduceIte, reduceCtorEq, Nat.reduceAdd, Nat.reduceSub, Nat.reduceLeDiff, Nat.reduceLT, Int.reduceLT, Int.reduceLE, Int.reduceEq, Int.reduceNeg, Nat.reduceMul, Int.reduceAdd, Int.reduceToNat, *]))
    | (with_reducible refine cond_split ?_ ?_)
    | (with_reducible refine guard_split ?_ ?_)
    | ((with_reducible refine drw_open 0 ?_); simp (maxSteps := 1000000) (disch := omega) only [push_cast, go_sem, Nat.reduceEqDiff, ↓reduceIte, reduceCtorEq, Nat.reduceAdd, Nat.reduceSub, Nat.reduceLeDiff, Nat.reduceLT, Int.reduceLT, Int.reduceLE, Int.reduceEq, Int.reduceNeg, Nat.reduceMul, Int.reduceAdd, Int.reduceToNat, *]; (with_reducible refine drw_id ?_))
    | ((with_reducible refine drw_open 1 ?_); simp (maxSteps := 1000000) (disch := omega) only [push_cast, go_sem, Nat.reduceEqDiff, ↓reduceIte, reduceCtorEq, Nat.reduceAdd, Nat.reduceSub, Nat.reduceLeDiff, Nat.reduceLT, Int.reduceLT, Int.reduceLE, Int.reduceEq, Int.reduceNeg, Nat.reduceMul, Int.reduceAdd, Int.reduceToNat, *]; (with_reducible refine drw_id ?_))
    | ((with_reducible refine drw_open 2 ?_); simp (maxSteps := 1000000) (disch := omega) only [push_cast, go_sem, Nat.reduceEqDiff, ↓reduceIte, reduceCtorEq, Nat.reduceAdd, Nat.reduceSub, Nat.reduceLeDiff, Nat.reduceLT, Int.reduceLT, Int.reduceLE, Int.reduceEq, Int.reduceNeg, Nat.reduceMul, Int.reduceAdd, Int.reduceToNat, *]; (with_reducible refine drw_id ?_))
    | ((with_reducible refine drw_intro ?_ ?_); (focus decide +kernel); (try simp (maxSteps := 1000000) (disch := omega) only [push_cast, go_sem, Nat.reduceEqDiff, ↓reduceIte, reduceCtorEq, Nat.reduceAdd, Nat.reduceSub, Nat.reduceLeDiff, Nat.reduceLT, Int.reduceLT, Int.reduceLE, Int.reduceEq, Int.reduceNeg, Nat.reduceMul, Int.reduceAdd, Int.reduceToNat, *]))
    | (with_reducible refine still_split ?_ ?_)
    | omega)
  all_goals first
    | (have he := riseL_pred (l := l) (i := i) (by omega) (by assumption)
       refine loop_end (i + 1) _ (by omega) ⟨by omega, ?_⟩ (by omega) (by simp (maxSteps := 1000000) (disch := omega) only [push_cast, go_sem, Nat.reduceEqDiff, ↓reduceIte, reduceCtorEq, Nat.reduceAdd, Nat.reduceSub, Nat.reduceLeDiff, Nat.reduceLT, Int.reduceLT, Int.reduceLE, Int.reduceEq, Int.reduceNeg, Nat.reduceMul, Int.reduceAdd, Int.reduceToNat, *]) (by simp (maxSteps := 1000000) (disch := omega) only [push_cast, go_sem, Nat.reduceEqDiff, ↓reduceIte, reduceCtorEq, Nat.reduceAdd, Nat.reduceSub, Nat.reduceLeDiff, Nat.reduceLT, Int.reduceLT, Int.reduceLE, Int.reduceEq, Int.reduceNeg, Nat.reduceMul, Int.reduceAdd, Int.reduceToNat, *]) (Nat.le_refl _)
       grind)
    | (have he := riseL_pred (l := l) (i := i) (by omega) (by assumption)
       grind)
    | (have he := riseL_end (l := l) (i := i - 1) (by omega)
       grind)
    | (have h0 : i = 0 := by omega
       subst h0
       refine loop_end 1 _ (by omega) ⟨by omega, by simp⟩ (by omega) (by simp (maxSteps := 1000000) (disch := omega) only [push_cast, go_sem, Nat.reduceEqDiff, ↓reduceIte, reduceCtorEq, Nat.reduceAdd, Nat.reduceSub, Nat.reduceLeDiff, Nat.reduceLT, Int.reduceLT, Int.reduceLE, Int.reduceEq, Int.reduceNeg, Nat.reduceMul, Int.reduceAdd, Int.reduceToNat, *]) (by simp (maxSteps := 1000000) (disch := omega) only [push_cast, go_sem, Nat.reduceEqDiff, ↓reduceIte, reduceCtorEq, Nat.reduceAdd, Nat.reduceSub, Nat.reduceLeDiff, Nat.reduceLT, Int.reduceLT, Int.reduceLE, Int.reduceEq, Int.reduceNeg, Nat.reduceMul, Int.reduceAdd, Int.reduceToNat, *]) (Nat.le_refl _))
end Go.Ev

set_option linter.unusedVariables false
set_option linter.unusedSimpArgs false
namespace Go.Ev
set_option maxRecDepth 100000
set_option maxHeartbeats 0
open Go.Proofs
def tabA (nx : Int) (l : List RecA) : AV := .optr (.agg [.int .i64 nx, .olst 5 (l.map encA)]) 0
theorem rise_low (fl : Bool) (f : Int) (l : List RecA) (h : 0 < l.length) (hf : l[0].off < f) : Spec Try.prog 37 [.int .i64 f, .lst fl 5 (l.map encA)] (.bool false) [.int .i64 f, .lst fl 5 (l.map encA)] := by
  refine spec_run (P := Try.prog) (f := 37) (fn := Try.f37) (by kernel_rfl) (by kernel_rfl) rfl (by simp [Try.f37]) ?_; simp (maxSteps := 1000000) (disch := omega) only [push_cast, go_sem, Nat.reduceEqDiff, ↓reduceIte, reduceCtorEq, Nat.reduceAdd, Nat.reduceSub, Nat.reduceLeDiff, Nat.reduceLT, Int.reduceLT, Int.reduceLE, Int.reduceEq, Int.reduceNeg, Nat.reduceMul, Int.reduceAdd, Int.reduceToNat, Try.f37, *]
  repeat' (first
    | with_reducible refine And.intro ?_ ?_
    | (with_reducible intro hx; (try simp only [false_dec, true_dec, Int.ofNat_inj, gt_iff_lt, ge_iff_le, decide_eq_true_eq, decide_eq_false_iff_not, Bool.not_eq_true', Bool.not_eq_false', Bool.and_eq_true, Bool.or_eq_false_iff, ne_eq, Classical.not_not] at hx); (first | (exfalso; omega) | (try simp (maxSteps := 1000000) (disch := omega) only [push_cast, go_sem, Nat.reduceEqDiff, ↓reduceIte, reduceCtorEq, Nat.reduceAdd, Nat.reduceSub, Nat.reduceLeDiff, Nat.reduceLT, Int.reduceLT, Int.reduceLE, Int.reduceEq, Int.reduceNeg, Nat.reduceMul, Int.reduceAdd, Int.reduceToNat, *])))
    | (with_reducible refine branch_t ?_; (try simp (maxSteps := 1000000) (disch := omega) only [push_cast, go_sem, Nat.reduceEqDiff, ↓reduceIte, reduceCtorEq, Nat.reduceAdd, Nat.reduceSub, Nat.reduceLeDiff, Nat.reduceLT, Int.reduceLT, Int.reduceLE, Int.reduceEq, Int.reduceNeg, Nat.reduceMul, Int.reduceAdd, Int.reduceToNat, *]))
    | (with_reducible refine branch_f ?_; (try simp (maxSteps := 1000000) (disch := omega) only [push_cast, go_sem, Nat.reduceEqDiff, ↓reduceIte, reduceCtorEq, Nat.reduceAdd, Nat.reduceSub, Nat.reduceLeDiff, Nat.reduceLT, Int.reduceLT, Int.reduceLE, Int.reduceEq, Int.reduceNeg, Nat.reduceMul, Int.reduceAdd, Int.reduceToNat, *]))
    | (with_reducible refine cond_split ?_ ?_)
    | (with_reducible refine guard_split ?_ ?_)
    | ((with_reducible refine drw_open 0 ?_); simp (maxSteps := 1000000) (disch := omega) only [push_cast, go_sem, Nat.reduceEqDiff, ↓reduceIte, reduceCtorEq, Nat.reduceAdd, Nat.reduceSub, Nat.reduceLeDiff, Nat.reduceLT, Int.reduceLT, Int.reduceLE, Int.reduceEq, Int.reduceNeg, Nat.reduceMul, Int.reduceAdd, Int.reduceToNat, *]; (with_reducible refine drw_id ?_))
    | ((with_reducible refine drw_open 1 ?_); simp (maxSteps := 1000000) (disch := omega) only [push_cast, go_sem, Nat.reduceEqDiff, ↓reduceIte, reduceCtorEq, Nat.reduceAdd, Nat.reduceSub, Nat.reduceLeDiff, Nat.reduceLT, Int.reduceLT, Int.reduceLE, Int.reduceEq, Int.reduceNeg, Nat.reduceMul, Int.reduceAdd, Int.reduceToNat, *]; (with_reducible refine drw_id ?_))
    | ((with_reducible refine drw_open 2 ?_); simp (maxSteps := 1000000) (disch := omega) only [push_cast, go_sem, Nat.reduceEqDiff, ↓reduceIte, reduceCtorEq, Nat.reduceAdd, Nat.reduceSub, Nat.reduceLeDiff, Nat.reduceLT, Int.reduceLT, Int.reduceLE, Int.reduceEq, Int.reduceNeg, Nat.reduceMul, Int.reduceAdd, Int.reduceToNat, *]; (with_reducible refine drw_id ?_))
    | ((with_reducible refine drw_intro ?_ ?_); (focus decide +kernel); (try simp (maxSteps := 1000000) (disch := omega) only [push_cast, go_sem, Nat.reduceEqDiff, ↓reduceIte, reduceCtorEq, Nat.reduceAdd, Nat.reduceSub, Nat.reduceLeDiff, Nat.reduceLT, Int.reduceLT, Int.reduceLE, Int.reduceEq, Int.reduceNeg, Nat.reduceMul, Int.reduceAdd, Int.reduceToNat, *]))
    | (with_reducible refine still_split ?_ ?_)
    | omega)
  refine loop_by (σ := Nat) (fun i N => ([(9, .int .i64 i), (8, .int .i64 l.length), (7, .lst fl 5 (l.map encA)), (0, .int .i64 f), (1, .lst fl 5 (l.map encA))], []))
    (fun i => i = 0) (fun i => l.length - i) 0 _ (by simp) (by simp (maxSteps := 1000000) (disch := omega) only [push_cast, go_sem, Nat.reduceEqDiff, ↓reduceIte, reduceCtorEq, Nat.reduceAdd, Nat.reduceSub, Nat.reduceLeDiff, Nat.reduceLT, Int.reduceLT, Int.reduceLE, Int.reduceEq, Int.reduceNeg, Nat.reduceMul, Int.reduceAdd, Int.reduceToNat, *]) (by simp (maxSteps := 1000000) (disch := omega) only [push_cast, go_sem, Nat.reduceEqDiff, ↓reduceIte, reduceCtorEq, Nat.reduceAdd, Nat.reduceSub, Nat.reduceLeDiff, Nat.reduceLT, Int.reduceLT, Int.reduceLE, Int.reduceEq, Int.reduceNeg, Nat.reduceMul, Int.reduceAdd, Int.reduceToNat, *]) (Nat.le_refl _) ?_
  rintro i N hN rfl
  dsimp only at *
  simp (maxSteps := 1000000) (disch := omega) only [push_cast, go_sem, Nat.reduceEqDiff, ↓reduceIte, reduceCtorEq, Nat.reduceAdd, Nat.reduceSub, Nat.reduceLeDiff, Nat.reduceLT, Int.reduceLT, Int.reduceLE, Int.reduceEq, Int.reduceNeg, Nat.reduceMul, Int.reduceAdd, Int.reduceToNat, *]
  repeat' (first
    | with_reducible refine And.intro ?_ ?_
    | (with_reducible intro hx; (try simp only [false_dec, true_dec, Int.ofNat_inj, gt_iff_lt, ge_iff_le, decide_eq_true_eq, decide_eq_false_iff_not, Bool.not_eq_true', Bool.not_eq_false', Bool.and_eq_true, Bool.or_eq_false_iff, ne_eq, Classical.not_not] at hx); (first | (exfalso; omega) | (try simp (maxSteps := 1000000) (disch := omega) only [push_cast, go_sem, Nat.reduceEqDiff, ↓reduceIte, reduceCtorEq, Nat.reduceAdd, Nat.reduceSub, Nat.reduceLeDiff, Nat.reduceLT, Int.reduceLT, Int.reduceLE, Int.reduceEq, Int.reduceNeg, Nat.reduceMul, Int.reduceAdd, Int.reduceToNat, *])))
    | (with_reducible refine branch_t ?_; (try simp (maxSteps := 1000000) (disch := omega) only [push_cast, go_sem, Nat.reduceEqDiff, ↓reduceIte, reduceCtorEq, Nat.reduceAdd, Nat.reduceSub, Nat.reduceLeDiff, Nat.reduceLT, Int.reduceLT, Int.reduceLE, Int.reduceEq, Int.reduceNeg, Nat.reduceMul, Int.reduceAdd, Int.reduceToNat, *]))
    | (with_reducible refine branch_f ?_; (try simp (maxSteps := 1000000) (disch := omega) only [push_cast, go_sem, Nat.reduceEqDiff, ↓reduceIte, reduceCtorEq, Nat.reduceAdd, Nat.reduceSub, Nat.reduceLeDiff, Nat.reduceLT, Int.reduceLT, Int.reduceLE, Int.reduceEq, Int.reduceNeg, Nat.reduceMul, Int.reduceAdd, Int.reduceToNat, *]))
    | (with_reducible refine cond_split ?_ ?_)
    | (with_reducible refine guard_split ?_ ?_)
    | ((with_reducible refine drw_open 0 ?_); simp (maxSteps := 1000000) (disch := omega) only [push_cast, go_sem, Nat.reduceEqDiff, ↓reduceIte, reduceCtorEq, Nat.reduceAdd, Nat.reduceSub, Nat.reduceLeDiff, Nat.reduceLT, Int.reduceLT, Int.reduceLE, Int.reduceEq, Int.reduceNeg, Nat.reduceMul, Int.reduceAdd, Int.reduceToNat, *]; (with_reducible refine drw_id ?_))
    | ((with_reducible refine drw_open 1 ?_); simp (maxSteps := 1000000) (disch := omega) only [push_cast, go_sem, Nat.reduceEqDiff, ↓reduceIte, reduceCtorEq, Nat.reduceAdd, Nat.reduceSub, Nat.reduceLeDiff, Nat.reduceLT, Int.reduceLT, Int.reduceLE, Int.reduceEq, Int.reduceNeg, Nat.reduceMul, Int.reduceAdd, Int.reduceToNat, *]; (with_reducible refine drw_id ?_))
    | ((with_reducible refine drw_open 2 ?_); simp (maxSteps := 1000000) (disch := omega) only [push_cast, go_sem, Nat.reduceEqDiff, ↓reduceIte, reduceCtorEq, Nat.reduceAdd, Nat.reduceSub, Nat.reduceLeDiff, Nat.reduceLT, Int.reduceLT, Int.reduceLE, Int.reduceEq, Int.reduceNeg, Nat.reduceMul, Int.reduceAdd, Int.reduceToNat, *]; (with_reducible refine drw_id ?_))
    | ((with_reducible refine drw_intro ?_ ?_); (focus decide +kernel); (try simp (maxSteps := 1000000) (disch := omega) only [push_cast, go_sem, Nat.reduceEqDiff, ↓reduceIte, reduceCtorEq, Nat.reduceAdd, Nat.reduceSub, Nat.reduceLeDiff, Nat.reduceLT, Int.reduceLT, Int.reduceLE, Int.reduceEq, Int.reduceNeg, Nat.reduceMul, Int.reduceAdd, Int.reduceToNat, *]))
    | (with_reducible refine still_split ?_ ?_)
    | omega)
  all_goals omega
theorem new_spec : Spec Try.prog 16 [] (.optr (.agg [.int .i64 0, .olst 5 []]) 0) [] := by
  refine spec_run (P := Try.prog) (f := 16) (fn := Try.f16) (by kernel_rfl) (by kernel_rfl) rfl (by simp [Try.f16]) ?_; simp (maxSteps := 1000000) (disch := omega) only [push_cast, go_sem, Nat.reduceEqDiff, ↓reduceIte, reduceCtorEq, Nat.reduceAdd, Nat.reduceSub, Nat.reduceLeDiff, Nat.reduceLT, Int.reduceLT, Int.reduceLE, Int.reduceEq, Int.reduceNeg, Nat.reduceMul, Int.reduceAdd, Int.reduceToNat, Try.f16, *]
  repeat' (first
    | with_reducible refine And.intro ?_ ?_
    | (with_reducible intro hx; (try simp only [false_dec, true_dec, Int.ofNat_inj, gt_iff_lt, ge_iff_le, decide_eq_true_eq, decide_eq_false_iff_not, Bool.not_eq_true', Bool.not_eq_false', Bool.and_eq_true, Bool.or_eq_false_iff, ne_eq, Classical.not_not] at hx); (first | (exfalso; omega) | (try simp (maxSteps := 1000000) (disch := omega) only [push_cast, go_sem, Nat.reduceEqDiff, ↓reduceIte, reduceCtorEq, Nat.reduceAdd, Nat.reduceSub, Nat.reduceLeDiff, Nat.reduceLT, Int.reduceLT, Int.reduceLE, Int.reduceEq, Int.reduceNeg, Nat.reduceMul, Int.reduceAdd, Int.reduceToNat, *])))
    | (with_reducible refine branch_t ?_; (try simp (maxSteps := 1000000) (disch := omega) only [push_cast, go_sem, Nat.reduceEqDiff, ↓reduceIte, reduceCtorEq, Nat.reduceAdd, Nat.reduceSub, Nat.reduceLeDiff, Nat.reduceLT, Int.reduceLT, Int.reduceLE, Int.reduceEq, Int.reduceNeg, Nat.reduceMul, Int.reduceAdd, Int.reduceToNat, *]))
    | (with_reducible refine branch_f ?_; (try simp (maxSteps := 1000000) (disch := omega) only [push_cast, go_sem, Nat.reduceEqDiff, ↓reduceIte, reduceCtorEq, Nat.reduceAdd, Nat.reduceSub, Nat.reduceLeDiff, Nat.reduceLT, Int.reduceLT, Int.reduceLE, Int.reduceEq, Int.reduceNeg, Nat.reduceMul, Int.reduceAdd, Int.reduceToNat, *]))
    | (with_reducible refine cond_split ?_ ?_)
    | (with_reducible refine guard_split ?_ ?_)
    | ((with_reducible refine drw_open 0 ?_); simp (maxSteps := 1000000) (disch := omega) only [push_cast, go_sem, Nat.reduceEqDiff, ↓reduceIte, reduceCtorEq, Nat.reduceAdd, Nat.reduceSub, Nat.reduceLeDiff, Nat.reduceLT, Int.reduceLT, Int.reduceLE, Int.reduceEq, Int.reduceNeg, Nat.reduceMul, Int.reduceAdd, Int.reduceToNat, *]; (with_reducible refine drw_id ?_))
    | ((with_reducible refine drw_open 1 ?_); simp (maxSteps := 1000000) (disch := omega) only [push_cast, go_sem, Nat.reduceEqDiff, ↓reduceIte, reduceCtorEq, Nat.reduceAdd, Nat.reduceSub, Nat.reduceLeDiff, Nat.reduceLT, Int.reduceLT, Int.reduceLE, Int.reduceEq, Int.reduceNeg, Nat.reduceMul, Int.reduceAdd, Int.reduceToNat, *]; (with_reducible refine drw_id ?_))
    | ((with_reducible refine drw_open 2 ?_); simp (maxSteps := 1000000) (disch := omega) only [push_cast, go_sem, Nat.reduceEqDiff, ↓reduceIte, reduceCtorEq, Nat.reduceAdd, Nat.reduceSub, Nat.reduceLeDiff, Nat.reduceLT, Int.reduceLT, Int.reduceLE, Int.reduceEq, Int.reduceNeg, Nat.reduceMul, Int.reduceAdd, Int.reduceToNat, *]; (with_reducible refine drw_id ?_))
    | ((with_reducible refine drw_intro ?_ ?_); (focus decide +kernel); (try simp (maxSteps := 1000000) (disch := omega) only [push_cast, go_sem, Nat.reduceEqDiff, ↓reduceIte, reduceCtorEq, Nat.reduceAdd, Nat.reduceSub, Nat.reduceLeDiff, Nat.reduceLT, Int.reduceLT, Int.reduceLE, Int.reduceEq, Int.reduceNeg, Nat.reduceMul, Int.reduceAdd, Int.reduceToNat, *]))
    | (with_reducible refine still_split ?_ ?_)
    | omega)
theorem len_spec (nx : Int) (l : List RecA) : Spec Try.prog 20 [.optr (.agg [.int .i64 nx, .olst 5 (l.map encA)]) 0] (.int .i64 l.length) [.optr (.agg [.int .i64 nx, .olst 5 (l.map encA)]) 0] := by
  refine spec_run (P := Try.prog) (f := 20) (fn := Try.f20) (by kernel_rfl) (by kernel_rfl) rfl (by simp [Try.f20]) ?_; simp (maxSteps := 1000000) (disch := omega) only [push_cast, go_sem, Nat.reduceEqDiff, ↓reduceIte, reduceCtorEq, Nat.reduceAdd, Nat.reduceSub, Nat.reduceLeDiff, Nat.reduceLT, Int.reduceLT, Int.reduceLE, Int.reduceEq, Int.reduceNeg, Nat.reduceMul, Int.reduceAdd, Int.reduceToNat, Try.f20, *]
  repeat' (first
    | with_reducible refine And.intro ?_ ?_
    | (with_reducible intro hx; (try simp only [false_dec, true_dec, Int.ofNat_inj, gt_iff_lt, ge_iff_le, decide_eq_true_eq, decide_eq_false_iff_not, Bool.not_eq_true', Bool.not_eq_false', Bool.and_eq_true, Bool.or_eq_false_iff, ne_eq, Classical.not_not] at hx); (first | (exfalso; omega) | (try simp (maxSteps := 1000000) (disch := omega) only [push_cast, go_sem, Nat.reduceEqDiff, ↓reduceIte, reduceCtorEq, Nat.reduceAdd, Nat.reduceSub, Nat.reduceLeDiff, Nat.reduceLT, Int.reduceLT, Int.reduceLE, Int.reduceEq, Int.reduceNeg, Nat.reduceMul, Int.reduceAdd, Int.reduceToNat, *])))
    | (with_reducible refine branch_t ?_; (try simp (maxSteps := 1000000) (disch := omega) only [push_cast, go_sem, Nat.reduceEqDiff, ↓reduceIte, reduceCtorEq, Nat.reduceAdd, Nat.reduceSub, Nat.reduceLeDiff, Nat.reduceLT, Int.reduceLT, Int.reduceLE, Int.reduceEq, Int.reduceNeg, Nat.reduceMul, Int.reduceAdd, Int.reduceToNat, *]))
    | (with_reducible refine branch_f ?_; (try simp (maxSteps := 1000000) (disch := omega) only [push_cast, go_sem, Nat.reduceEqDiff, ↓reduceIte, reduceCtorEq, Nat.reduceAdd, Nat.reduceSub, Nat.reduceLeDiff, Nat.reduceLT, Int.reduceLT, Int.reduceLE, Int.reduceEq, Int.reduceNeg, Nat.reduceMul, Int.reduceAdd, Int.reduceToNat, *]))
    | (with_reducible refine cond_split ?_ ?_)
    | (with_reducible refine guard_split ?_ ?_)
    | ((with_reducible refine drw_open 0 ?_); simp (maxSteps := 1000000) (disch := omega) only [push_cast, go_sem, Nat.reduceEqDiff, ↓reduceIte, reduceCtorEq, Nat.reduceAdd, Nat.reduceSub, Nat.reduceLeDiff, Nat.reduceLT, Int.reduceLT, Int.reduceLE, Int.reduceEq, Int.reduceNeg, Nat.reduceMul, Int.reduceAdd, Int.reduceToNat, *]; (with_reducible refine drw_id ?_))
    | ((with_reducible refine drw_open 1 ?_); simp (maxSteps := 1000000) (disch := omega) only [push_cast, go_sem, Nat.reduceEqDiff, ↓reduceIte, reduceCtorEq, Nat.reduceAdd, Nat.reduceSub, Nat.reduceLeDiff, Nat.reduceLT, Int.reduceLT, Int.reduceLE, Int.reduceEq, Int.reduceNeg, Nat.reduceMul, Int.reduceAdd, Int.reduceToNat, *]; (with_reducible refine drw_id ?_))
    | ((with_reducible refine drw_open 2 ?_); simp (maxSteps := 1000000) (disch := omega) only [push_cast, go_sem, Nat.reduceEqDiff, ↓reduceIte, reduceCtorEq, Nat.reduceAdd, Nat.reduceSub, Nat.reduceLeDiff, Nat.reduceLT, Int.reduceLT, Int.reduceLE, Int.reduceEq, Int.reduceNeg, Nat.reduceMul, Int.reduceAdd, Int.reduceToNat, *]; (with_reducible refine drw_id ?_))
    | ((with_reducible refine drw_intro ?_ ?_); (focus decide +kernel); (try simp (maxSteps := 1000000) (disch := omega) only [push_cast, go_sem, Nat.reduceEqDiff, ↓reduceIte, reduceCtorEq, Nat.reduceAdd, Nat.reduceSub, Nat.reduceLeDiff, Nat.reduceLT, Int.reduceLT, Int.reduceLE, Int.reduceEq, Int.reduceNeg, Nat.reduceMul, Int.reduceAdd, Int.reduceToNat, *]))
    | (with_reducible refine still_split ?_ ?_)
    | omega)
theorem tnext_spec (nx : Int) (l : List RecA) : Spec Try.prog 19 [.optr (.agg [.int .i64 nx, .olst 5 (l.map encA)]) 0] (.int .i64 nx) [.optr (.agg [.int .i64 nx, .olst 5 (l.map encA)]) 0] := by
  refine spec_run (P := Try.prog) (f := 19) (fn := Try.f19) (by kernel_rfl) (by kernel_rfl) rfl (by simp [Try.f19]) ?_; simp (maxSteps := 1000000) (disch := omega) only [push_cast, go_sem, Nat.reduceEqDiff, ↓reduceIte, reduceCtorEq, Nat.reduceAdd, Nat.reduceSub, Nat.reduceLeDiff, Nat.reduceLT, Int.reduceLT, Int.reduceLE, Int.reduceEq, Int.reduceNeg, Nat.reduceMul, Int.reduceAdd, Int.reduceToNat, Try.f19, *]
  repeat' (first
    | with_reducible refine And.intro ?_ ?_
    | (with_reducible intro hx; (try simp only [false_dec, true_dec, Int.ofNat_inj, gt_iff_lt, ge_iff_le, decide_eq_true_eq, decide_eq_false_iff_not, Bool.not_eq_true', Bool.not_eq_false', Bool.and_eq_true, Bool.or_eq_false_iff, ne_eq, Classical.not_not] at hx); (first | (exfalso; omega) | (try simp (maxSteps := 1000000) (disch := omega) only [push_cast, go_sem, Nat.reduceEqDiff, ↓reduceIte, reduceCtorEq, Nat.reduceAdd, Nat.reduceSub, Nat.reduceLeDiff, Nat.reduceLT, Int.reduceLT, Int.reduceLE, Int.reduceEq, Int.reduceNeg, Nat.reduceMul, Int.reduceAdd, Int.reduceToNat, *])))
    | (with_reducible refine branch_t ?_; (try simp (maxSteps := 1000000) (disch := omega) only [push_cast, go_sem, Nat.reduceEqDiff, ↓reduceIte, reduceCtorEq, Nat.reduceAdd, Nat.reduceSub, Nat.reduceLeDiff, Nat.reduceLT, Int.reduceLT, Int.reduceLE, Int.reduceEq, Int.reduceNeg, Nat.reduceMul, Int.reduceAdd, Int.reduceToNat, *]))
    | (with_reducible refine branch_f ?_; (try simp (maxSteps := 1000000) (disch := omega) only [push_cast, go_sem, Nat.reduceEqDiff, ↓reduceIte, reduceCtorEq, Nat.reduceAdd, Nat.reduceSub, Nat.reduceLeDiff, Nat.reduceLT, Int.reduceLT, Int.reduceLE, Int.reduceEq, Int.reduceNeg, Nat.reduceMul, Int.reduceAdd, Int.reduceToNat, *]))
    | (with_reducible refine cond_split ?_ ?_)
    | (with_reducible refine guard_split ?_ ?_)
    | ((with_reducible refine drw_open 0 ?_); simp (maxSteps := 1000000) (disch := omega) only [push_cast, go_sem, Nat.reduceEqDiff, ↓reduceIte, reduceCtorEq, Nat.reduceAdd, Nat.reduceSub, Nat.reduceLeDiff, Nat.reduceLT, Int.reduceLT, Int.reduceLE, Int.reduceEq, Int.reduceNeg, Nat.reduceMul, Int.reduceAdd, Int.reduceToNat, *]; (with_reducible refine drw_id ?_))
    | ((with_reducible refine drw_open 1 ?_); simp (maxSteps := 1000000) (disch := omega) only [push_cast, go_sem, Nat.reduceEqDiff, ↓reduceIte, reduceCtorEq, Nat.reduceAdd, Nat.reduceSub, Nat.reduceLeDiff, Nat.reduceLT, Int.reduceLT, Int.reduceLE, Int.reduceEq, Int.reduceNeg, Nat.reduceMul, Int.reduceAdd, Int.reduceToNat, *]; (with_reducible refine drw_id ?_))
    | ((with_reducible refine drw_open 2 ?_); simp (maxSteps := 1000000) (disch := omega) only [push_cast, go_sem, Nat.reduceEqDiff, ↓reduceIte, reduceCtorEq, Nat.reduceAdd, Nat.reduceSub, Nat.reduceLeDiff, Nat.reduceLT, Int.reduceLT, Int.reduceLE, Int.reduceEq, Int.reduceNeg, Nat.reduceMul, Int.reduceAdd, Int.reduceToNat, *]; (with_reducible refine drw_id ?_))
    | ((with_reducible refine drw_intro ?_ ?_); (focus decide +kernel); (try simp (maxSteps := 1000000) (disch := omega) only [push_cast, go_sem, Nat.reduceEqDiff, ↓reduceIte, reduceCtorEq, Nat.reduceAdd, Nat.reduceSub, Nat.reduceLeDiff, Nat.reduceLT, Int.reduceLT, Int.reduceLE, Int.reduceEq, Int.reduceNeg, Nat.reduceMul, Int.reduceAdd, Int.reduceToNat, *]))
    | (with_reducible refine still_split ?_ ?_)
    | omega)
theorem clone_spec (fl : Bool) (l : List RecA) (hl : l.length ≤ 100000) : Spec Try.prog 41 [.lst fl 5 (l.map encA)] (.olst 5 (l.map encA)) [.lst fl 5 (l.map encA)] := by
  refine spec_run (P := Try.prog) (f := 41) (fn := Try.f41) (by kernel_rfl) (by kernel_rfl) rfl (by simp [Try.f41]) ?_; simp (maxSteps := 1000000) (disch := omega) only [push_cast, go_sem, Nat.reduceEqDiff, ↓reduceIte, reduceCtorEq, Nat.reduceAdd, Nat.reduceSub, Nat.reduceLeDiff, Nat.reduceLT, Int.reduceLT, Int.reduceLE, Int.reduceEq, Int.reduceNeg, Nat.reduceMul, Int.reduceAdd, Int.reduceToNat, Try.f41, *]
  repeat' (first
    | with_reducible refine And.intro ?_ ?_
    | (with_reducible intro hx; (try simp only [false_dec, true_dec, Int.ofNat_inj, gt_iff_lt, ge_iff_le, decide_eq_true_eq, decide_eq_false_iff_not, Bool.not_eq_true', Bool.not_eq_false', Bool.and_eq_true, Bool.or_eq_false_iff, ne_eq, Classical.not_not] at hx); (first | (exfalso; omega) | (try simp (maxSteps := 1000000) (disch := omega) only [push_cast, go_sem, Nat.reduceEqDiff, ↓reduceIte, reduceCtorEq, Nat.reduceAdd, Nat.reduceSub, Nat.reduceLeDiff, Nat.reduceLT, Int.reduceLT, Int.reduceLE, Int.reduceEq, Int.reduceNeg, Nat.reduceMul, Int.reduceAdd, Int.reduceToNat, *])))
    | (with_reducible refine branch_t ?_; (try simp (maxSteps := 1000000) (disch := omega) only [push_cast, go_sem, Nat.reduceEqDiff, ↓reduceIte, reduceCtorEq, Nat.reduceAdd, Nat.reduceSub, Nat.reduceLeDiff, Nat.reduceLT, Int.reduceLT, Int.reduceLE, Int.reduceEq, Int.reduceNeg, Nat.reduceMul, Int.reduceAdd, Int.reduceToNat, *]))
    | (with_reducible refine branch_f ?_; (try simp (maxSteps := 1000000) (disch := omega) only [push_cast, go_sem, Nat.reduceEqDiff, ↓reduceIte, reduceCtorEq, Nat.reduceAdd, Nat.reduceSub, Nat.reduceLeDiff, Nat.reduceLT, Int.reduceLT, Int.reduceLE, Int.reduceEq, Int.reduceNeg, Nat.reduceMul, Int.reduceAdd, Int.reduceToNat, *]))
    | (with_reducible refine cond_split ?_ ?_)
    | (with_reducible refine guard_split ?_ ?_)
    | ((with_reducible refine drw_open 0 ?_); simp (maxSteps := 1000000) (disch := omega) only [push_cast, go_sem, Nat.reduceEqDiff, ↓reduceIte, reduceCtorEq, Nat.reduceAdd, Nat.reduceSub, Nat.reduceLeDiff, Nat.reduceLT, Int.reduceLT, Int.reduceLE, Int.reduceEq, Int.reduceNeg, Nat.reduceMul, Int.reduceAdd, Int.reduceToNat, *]; (with_reducible refine drw_id ?_))
    | ((with_reducible refine drw_open 1 ?_); simp (maxSteps := 1000000) (disch := omega) only [push_cast, go_sem, Nat.reduceEqDiff, ↓reduceIte, reduceCtorEq, Nat.reduceAdd, Nat.reduceSub, Nat.reduceLeDiff, Nat.reduceLT, Int.reduceLT, Int.reduceLE, Int.reduceEq, Int.reduceNeg, Nat.reduceMul, Int.reduceAdd, Int.reduceToNat, *]; (with_reducible refine drw_id ?_))
    | ((with_reducible refine drw_open 2 ?_); simp (maxSteps := 1000000) (disch := omega) only [push_cast, go_sem, Nat.reduceEqDiff, ↓reduceIte, reduceCtorEq, Nat.reduceAdd, Nat.reduceSub, Nat.reduceLeDiff, Nat.reduceLT, Int.reduceLT, Int.reduceLE, Int.reduceEq, Int.reduceNeg, Nat.reduceMul, Int.reduceAdd, Int.reduceToNat, *]; (with_reducible refine drw_id ?_))
    | ((with_reducible refine drw_intro ?_ ?_); (focus decide +kernel); (try simp (maxSteps := 1000000) (disch := omega) only [push_cast, go_sem, Nat.reduceEqDiff, ↓reduceIte, reduceCtorEq, Nat.reduceAdd, Nat.reduceSub, Nat.reduceLeDiff, Nat.reduceLT, Int.reduceLT, Int.reduceLE, Int.reduceEq, Int.reduceNeg, Nat.reduceMul, Int.reduceAdd, Int.reduceToNat, *]))
    | (with_reducible refine still_split ?_ ?_)
    | omega)
  rename_i h
  have : l = [] := List.length_eq_zero_iff.1 (h hx)
  rw [this]; rfl
theorem all_spec (nx : Int) (l : List RecA) (hl : l.length ≤ 100000) : Spec Try.prog 21 [.optr (.agg [.int .i64 nx, .olst 5 (l.map encA)]) 0] (.olst 5 (l.map encA)) [.optr (.agg [.int .i64 nx, .olst 5 (l.map encA)]) 0] := by
  refine spec_run (P := Try.prog) (f := 21) (fn := Try.f21) (by kernel_rfl) (by kernel_rfl) rfl (by simp [Try.f21]) ?_; simp (maxSteps := 1000000) (disch := omega) only [push_cast, go_sem, Nat.reduceEqDiff, ↓reduceIte, reduceCtorEq, Nat.reduceAdd, Nat.reduceSub, Nat.reduceLeDiff, Nat.reduceLT, Int.reduceLT, Int.reduceLE, Int.reduceEq, Int.reduceNeg, Nat.reduceMul, Int.reduceAdd, Int.reduceToNat, Try.f21, *]
  repeat' (first
    | with_reducible refine And.intro ?_ ?_
    | (with_reducible intro hx; (try simp only [false_dec, true_dec, Int.ofNat_inj, gt_iff_lt, ge_iff_le, decide_eq_true_eq, decide_eq_false_iff_not, Bool.not_eq_true', Bool.not_eq_false', Bool.and_eq_true, Bool.or_eq_false_iff, ne_eq, Classical.not_not] at hx); (first | (exfalso; omega) | (try simp (maxSteps := 1000000) (disch := omega) only [push_cast, go_sem, Nat.reduceEqDiff, ↓reduceIte, reduceCtorEq, Nat.reduceAdd, Nat.reduceSub, Nat.reduceLeDiff, Nat.reduceLT, Int.reduceLT, Int.reduceLE, Int.reduceEq, Int.reduceNeg, Nat.reduceMul, Int.reduceAdd, Int.reduceToNat, *])))
    | (with_reducible refine branch_t ?_; (try simp (maxSteps := 1000000) (disch := omega) only [push_cast, go_sem, Nat.reduceEqDiff, ↓reduceIte, reduceCtorEq, Nat.reduceAdd, Nat.reduceSub, Nat.reduceLeDiff, Nat.reduceLT, Int.reduceLT, Int.reduceLE, Int.reduceEq, Int.reduceNeg, Nat.reduceMul, Int.reduceAdd, Int.reduceToNat, *]))
    | (with_reducible refine branch_f ?_; (try simp (maxSteps := 1000000) (disch := omega) only [push_cast, go_sem, Nat.reduceEqDiff, ↓reduceIte, reduceCtorEq, Nat.reduceAdd, Nat.reduceSub, Nat.reduceLeDiff, Nat.reduceLT, Int.reduceLT, Int.reduceLE, Int.reduceEq, Int.reduceNeg, Nat.reduceMul, Int.reduceAdd, Int.reduceToNat, *]))
    | (with_reducible refine cond_split ?_ ?_)
    | (with_reducible refine guard_split ?_ ?_)
    | ((with_reducible refine drw_open 0 ?_); simp (maxSteps := 1000000) (disch := omega) only [push_cast, go_sem, Nat.reduceEqDiff, ↓reduceIte, reduceCtorEq, Nat.reduceAdd, Nat.reduceSub, Nat.reduceLeDiff, Nat.reduceLT, Int.reduceLT, Int.reduceLE, Int.reduceEq, Int.reduceNeg, Nat.reduceMul, Int.reduceAdd, Int.reduceToNat, *]; (with_reducible refine drw_id ?_))
    | ((with_reducible refine drw_open 1 ?_); simp (maxSteps := 1000000) (disch := omega) only [push_cast, go_sem, Nat.reduceEqDiff, ↓reduceIte, reduceCtorEq, Nat.reduceAdd, Nat.reduceSub, Nat.reduceLeDiff, Nat.reduceLT, Int.reduceLT, Int.reduceLE, Int.reduceEq, Int.reduceNeg, Nat.reduceMul, Int.reduceAdd, Int.reduceToNat, *]; (with_reducible refine drw_id ?_))
    | ((with_reducible refine drw_open 2 ?_); simp (maxSteps := 1000000) (disch := omega) only [push_cast, go_sem, Nat.reduceEqDiff, ↓reduceIte, reduceCtorEq, Nat.reduceAdd, Nat.reduceSub, Nat.reduceLeDiff, Nat.reduceLT, Int.reduceLT, Int.reduceLE, Int.reduceEq, Int.reduceNeg, Nat.reduceMul, Int.reduceAdd, Int.reduceToNat, *]; (with_reducible refine drw_id ?_))
    | ((with_reducible refine drw_intro ?_ ?_); (focus decide +kernel); (try simp (maxSteps := 1000000) (disch := omega) only [push_cast, go_sem, Nat.reduceEqDiff, ↓reduceIte, reduceCtorEq, Nat.reduceAdd, Nat.reduceSub, Nat.reduceLeDiff, Nat.reduceLT, Int.reduceLT, Int.reduceLE, Int.reduceEq, Int.reduceNeg, Nat.reduceMul, Int.reduceAdd, Int.reduceToNat, *]))
    | (with_reducible refine still_split ?_ ?_)
    | ((with_reducible refine call_by2 [] (clone_spec _ _ hl) (by first | (refine ⟨?_, ?_, ?_, ?_⟩ <;> ((try simp (maxSteps := 1000000) (disch := omega) only [push_cast, go_sem, Nat.reduceEqDiff, ↓reduceIte, reduceCtorEq, Nat.reduceAdd, Nat.reduceSub, Nat.reduceLeDiff, Nat.reduceLT, Int.reduceLT, Int.reduceLE, Int.reduceEq, Int.reduceNeg, Nat.reduceMul, Int.reduceAdd, Int.reduceToNat, *]); (try rfl); (try omega); done)) | fail) ?_) <;> (try simp (maxSteps := 1000000) (disch := omega) only [push_cast, go_sem, Nat.reduceEqDiff, ↓reduceIte, reduceCtorEq, Nat.reduceAdd, Nat.reduceSub, Nat.reduceLeDiff, Nat.reduceLT, Int.reduceLT, Int.reduceLE, Int.reduceEq, Int.reduceNeg, Nat.reduceMul, Int.reduceAdd, Int.reduceToNat, *]))
    | omega)
theorem copy_spec (nx : Int) (l : List RecA) (hl : l.length ≤ 100000) : Spec Try.prog 23 [.optr (.agg [.int .i64 nx, .olst 5 (l.map encA)]) 0] (.optr (.agg [.int .i64 nx, .olst 5 (l.map encA)]) 0) [.optr (.agg [.int .i64 nx, .olst 5 (l.map encA)]) 0] := by
  refine spec_run (P := Try.prog) (f := 23) (fn := Try.f23) (by kernel_rfl) (by kernel_rfl) rfl (by simp [Try.f23]) ?_; simp (maxSteps := 1000000) (disch := omega) only [push_cast, go_sem, Nat.reduceEqDiff, ↓reduceIte, reduceCtorEq, Nat.reduceAdd, Nat.reduceSub, Nat.reduceLeDiff, Nat.reduceLT, Int.reduceLT, Int.reduceLE, Int.reduceEq, Int.reduceNeg, Nat.reduceMul, Int.reduceAdd, Int.reduceToNat, Try.f23, *]
  repeat' (first
    | with_reducible refine And.intro ?_ ?_
    | (with_reducible intro hx; (try simp only [false_dec, true_dec, Int.ofNat_inj, gt_iff_lt, ge_iff_le, decide_eq_true_eq, decide_eq_false_iff_not, Bool.not_eq_true', Bool.not_eq_false', Bool.and_eq_true, Bool.or_eq_false_iff, ne_eq, Classical.not_not] at hx); (first | (exfalso; omega) | (try simp (maxSteps := 1000000) (disch := omega) only [push_cast, go_sem, Nat.reduceEqDiff, ↓reduceIte, reduceCtorEq, Nat.reduceAdd, Nat.reduceSub, Nat.reduceLeDiff, Nat.reduceLT, Int.reduceLT, Int.reduceLE, Int.reduceEq, Int.reduceNeg, Nat.reduceMul, Int.reduceAdd, Int.reduceToNat, *])))
    | (with_reducible refine branch_t ?_; (try simp (maxSteps := 1000000) (disch := omega) only [push_cast, go_sem, Nat.reduceEqDiff, ↓reduceIte, reduceCtorEq, Nat.reduceAdd, Nat.reduceSub, Nat.reduceLeDiff, Nat.reduceLT, Int.reduceLT, Int.reduceLE, Int.reduceEq, Int.reduceNeg, Nat.reduceMul, Int.reduceAdd, Int.reduceToNat, *]))
    | (with_reducible refine branch_f ?_; (try simp (maxSteps := 1000000) (disch := omega) only [push_cast, go_sem, Nat.reduceEqDiff, ↓reduceIte, reduceCtorEq, Nat.reduceAdd, Nat.reduceSub, Nat.reduceLeDiff, Nat.reduceLT, Int.reduceLT, Int.reduceLE, Int.reduceEq, Int.reduceNeg, Nat.reduceMul, Int.reduceAdd, Int.reduceToNat, *]))
    | (with_reducible refine cond_split ?_ ?_)
    | (with_reducible refine guard_split ?_ ?_)
    | ((with_reducible refine drw_open 0 ?_); simp (maxSteps := 1000000) (disch := omega) only [push_cast, go_sem, Nat.reduceEqDiff, ↓reduceIte, reduceCtorEq, Nat.reduceAdd, Nat.reduceSub, Nat.reduceLeDiff, Nat.reduceLT, Int.reduceLT, Int.reduceLE, Int.reduceEq, Int.reduceNeg, Nat.reduceMul, Int.reduceAdd, Int.reduceToNat, *]; (with_reducible refine drw_id ?_))
    | ((with_reducible refine drw_open 1 ?_); simp (maxSteps := 1000000) (disch := omega) only [push_cast, go_sem, Nat.reduceEqDiff, ↓reduceIte, reduceCtorEq, Nat.reduceAdd, Nat.reduceSub, Nat.reduceLeDiff, Nat.reduceLT, Int.reduceLT, Int.reduceLE, Int.reduceEq, Int.reduceNeg, Nat.reduceMul, Int.reduceAdd, Int.reduceToNat, *]; (with_reducible refine drw_id ?_))
    | ((with_reducible refine drw_open 2 ?_); simp (maxSteps := 1000000) (disch := omega) only [push_cast, go_sem, Nat.reduceEqDiff, ↓reduceIte, reduceCtorEq, Nat.reduceAdd, Nat.reduceSub, Nat.reduceLeDiff, Nat.reduceLT, Int.reduceLT, Int.reduceLE, Int.reduceEq, Int.reduceNeg, Nat.reduceMul, Int.reduceAdd, Int.reduceToNat, *]; (with_reducible refine drw_id ?_))
    | ((with_reducible refine drw_plan pl23_0 ?_ ?_ ?_); (focus decide +kernel); (focus rfl); (try simp (maxSteps := 1000000) (disch := omega) only [push_cast, go_sem, Nat.reduceEqDiff, ↓reduceIte, reduceCtorEq, Nat.reduceAdd, Nat.reduceSub, Nat.reduceLeDiff, Nat.reduceLT, Int.reduceLT, Int.reduceLE, Int.reduceEq, Int.reduceNeg, Nat.reduceMul, Int.reduceAdd, Int.reduceToNat, *]); (fail_if_success (with_reducible change False)))
    | ((with_reducible refine drw_intro ?_ ?_); (focus decide +kernel); (try simp (maxSteps := 1000000) (disch := omega) only [push_cast, go_sem, Nat.reduceEqDiff, ↓reduceIte, reduceCtorEq, Nat.reduceAdd, Nat.reduceSub, Nat.reduceLeDiff, Nat.reduceLT, Int.reduceLT, Int.reduceLE, Int.reduceEq, Int.reduceNeg, Nat.reduceMul, Int.reduceAdd, Int.reduceToNat, *]))
    | (with_reducible refine still_split ?_ ?_)
    | ((with_reducible refine call_by2 [] (clone_spec _ _ hl) (by first | (refine ⟨?_, ?_, ?_, ?_⟩ <;> ((try simp (maxSteps := 1000000) (disch := omega) only [push_cast, go_sem, Nat.reduceEqDiff, ↓reduceIte, reduceCtorEq, Nat.reduceAdd, Nat.reduceSub, Nat.reduceLeDiff, Nat.reduceLT, Int.reduceLT, Int.reduceLE, Int.reduceEq, Int.reduceNeg, Nat.reduceMul, Int.reduceAdd, Int.reduceToNat, *]); (try rfl); (try omega); done)) | fail) ?_) <;> (try simp (maxSteps := 1000000) (disch := omega) only [push_cast, go_sem, Nat.reduceEqDiff, ↓reduceIte, reduceCtorEq, Nat.reduceAdd, Nat.reduceSub, Nat.reduceLeDiff, Nat.reduceLT, Int.reduceLT, Int.reduceLE, Int.reduceEq, Int.reduceNeg, Nat.reduceMul, Int.reduceAdd, Int.reduceToNat, *]))
    | omega)
def zeroRec : RecA := ⟨0, [], [], false, 0⟩
def getT (l : List RecA) (k : List UInt8) : RecA := (l.find? fun r => decide (r.key = k)).getD zeroRec
theorem getT_lb {l : List RecA} {k : List UInt8} (hs : SortedK l) (h : hasK l k = true) : ∃ hi : lb l k < l.length, getT l k = l[lb l k] := by
  obtain ⟨hi, he⟩ := hasK_lb hs h
  refine ⟨hi, ?_⟩
  have : l.find? (fun r => decide (r.key = k)) = some l[lb l k] := by
    rw [List.find?_eq_some_iff_getElem]
    refine ⟨by simpa using he, lb l k, hi, rfl, fun j hj => ?_⟩
    have := lb_lt (by omega) hj
    simp only [Bool.not_eq_true', decide_eq_false_iff_not]
    intro e
    rw [e, bl_irrefl] at this; cases this
  unfold getT
  rw [this]; rfl
theorem getT_no {l : List RecA} {k : List UInt8} (h : hasK l k = false) : getT l k = zeroRec := by
  have : l.find? (fun r => decide (r.key = k)) = none := by
    rw [List.find?_eq_none]
    intro x hx
    have := List.any_eq_false.1 h x hx
    simpa using this
  unfold getT
  rw [this]; rfl
theorem get_spec (nx : Int) (l : List RecA) (k : List UInt8) (hs : SortedK l) (hl : l.length ≤ 100000) : Spec Try.prog 27 [.optr (.agg [.int .i64 nx, .olst 5 (l.map encA)]) 0, .str (ofL k)]
    (.tup [encA (getT l k), .bool (hasK l k)]) [.optr (.agg [.int .i64 nx, .olst 5 (l.map encA)]) 0, .str (ofL k)] := by
  by_cases hb : hasK l k = true
  · obtain ⟨hlt, hg⟩ := getT_lb hs hb
    rw [hg, hb]
    refine spec_run (P := Try.prog) (f := 27) (fn := Try.f27) (by kernel_rfl) (by kernel_rfl) rfl (by simp [Try.f27]) ?_; simp (maxSteps := 1000000) (disch := omega) only [push_cast, go_sem, Nat.reduceEqDiff, ↓reduceIte, reduceCtorEq, Nat.reduceAdd, Nat.reduceSub, Nat.reduceLeDiff, Nat.reduceLT, Int.reduceLT, Int.reduceLE, Int.reduceEq, Int.reduceNeg, Nat.reduceMul, Int.reduceAdd, Int.reduceToNat, Try.f27, *]
    repeat' (first
    | with_reducible refine And.intro ?_ ?_
    | (with_reducible intro hx; (try simp only [false_dec, true_dec, Int.ofNat_inj, gt_iff_lt, ge_iff_le, decide_eq_true_eq, decide_eq_false_iff_not, Bool.not_eq_true', Bool.not_eq_false', Bool.and_eq_true, Bool.or_eq_false_iff, ne_eq, Classical.not_not] at hx); (first | (exfalso; omega) | (try simp (maxSteps := 1000000) (disch := omega) only [push_cast, go_sem, Nat.reduceEqDiff, ↓reduceIte, reduceCtorEq, Nat.reduceAdd, Nat.reduceSub, Nat.reduceLeDiff, Nat.reduceLT, Int.reduceLT, Int.reduceLE, Int.reduceEq, Int.reduceNeg, Nat.reduceMul, Int.reduceAdd, Int.reduceToNat, *])))
    | (with_reducible refine branch_t ?_; (try simp (maxSteps := 1000000) (disch := omega) only [push_cast, go_sem, Nat.reduceEqDiff, ↓reduceIte, reduceCtorEq, Nat.reduceAdd, Nat.reduceSub, Nat.reduceLeDiff, Nat.reduceLT, Int.reduceLT, Int.reduceLE, Int.reduceEq, Int.reduceNeg, Nat.reduceMul, Int.reduceAdd, Int.reduceToNat, *]))
    | (with_reducible refine branch_f ?_; (try simp (maxSteps := 1000000) (disch := omega) only [push_cast, go_sem, Nat.reduceEqDiff, ↓reduceIte, reduceCtorEq, Nat.reduceAdd, Nat.reduceSub, Nat.reduceLeDiff, Nat.reduceLT, Int.reduceLT, Int.reduceLE, Int.reduceEq, Int.reduceNeg, Nat.reduceMul, Int.reduceAdd, Int.reduceToNat, *]))
    | (with_reducible refine cond_split ?_ ?_)
    | (with_reducible refine guard_split ?_ ?_)
    | ((with_reducible refine drw_open 0 ?_); simp (maxSteps := 1000000) (disch := omega) only [push_cast, go_sem, Nat.reduceEqDiff, ↓reduceIte, reduceCtorEq, Nat.reduceAdd, Nat.reduceSub, Nat.reduceLeDiff, Nat.reduceLT, Int.reduceLT, Int.reduceLE, Int.reduceEq, Int.reduceNeg, Nat.reduceMul, Int.reduceAdd, Int.reduceToNat, *]; (with_reducible refine drw_id ?_))
    | ((with_reducible refine drw_open 1 ?_); simp (maxSteps := 1000000) (disch := omega) only [push_cast, go_sem, Nat.reduceEqDiff, ↓reduceIte, reduceCtorEq, Nat.reduceAdd, Nat.reduceSub, Nat.reduceLeDiff, Nat.reduceLT, Int.reduceLT, Int.reduceLE, Int.reduceEq, Int.reduceNeg, Nat.reduceMul, Int.reduceAdd, Int.reduceToNat, *]; (with_reducible refine drw_id ?_))
    | ((with_reducible refine drw_open 2 ?_); simp (maxSteps := 1000000) (disch := omega) only [push_cast, go_sem, Nat.reduceEqDiff, ↓reduceIte, reduceCtorEq, Nat.reduceAdd, Nat.reduceSub, Nat.reduceLeDiff, Nat.reduceLT, Int.reduceLT, Int.reduceLE, Int.reduceEq, Int.reduceNeg, Nat.reduceMul, Int.reduceAdd, Int.reduceToNat, *]; (with_reducible refine drw_id ?_))
    | ((with_reducible refine drw_intro ?_ ?_); (focus decide +kernel); (try simp (maxSteps := 1000000) (disch := omega) only [push_cast, go_sem, Nat.reduceEqDiff, ↓reduceIte, reduceCtorEq, Nat.reduceAdd, Nat.reduceSub, Nat.reduceLeDiff, Nat.reduceLT, Int.reduceLT, Int.reduceLE, Int.reduceEq, Int.reduceNeg, Nat.reduceMul, Int.reduceAdd, Int.reduceToNat, *]))
    | (with_reducible refine still_split ?_ ?_)
    | ((with_reducible refine call_by2 [true] (at_is hs (by omega) hb) (by first | (refine ⟨?_, ?_, ?_, ?_⟩ <;> ((try simp (maxSteps := 1000000) (disch := omega) only [push_cast, go_sem, Nat.reduceEqDiff, ↓reduceIte, reduceCtorEq, Nat.reduceAdd, Nat.reduceSub, Nat.reduceLeDiff, Nat.reduceLT, Int.reduceLT, Int.reduceLE, Int.reduceEq, Int.reduceNeg, Nat.reduceMul, Int.reduceAdd, Int.reduceToNat, *]); (try rfl); (try omega); done)) | fail) ?_) <;> (try simp (maxSteps := 1000000) (disch := omega) only [push_cast, go_sem, Nat.reduceEqDiff, ↓reduceIte, reduceCtorEq, Nat.reduceAdd, Nat.reduceSub, Nat.reduceLeDiff, Nat.reduceLT, Int.reduceLT, Int.reduceLE, Int.reduceEq, Int.reduceNeg, Nat.reduceMul, Int.reduceAdd, Int.reduceToNat, *]))
    | omega)
    all_goals rfl
  · have hb : hasK l k = false := by simpa using hb
    rw [hb, getT_no hb]
    refine spec_run (P := Try.prog) (f := 27) (fn := Try.f27) (by kernel_rfl) (by kernel_rfl) rfl (by simp [Try.f27]) ?_; simp (maxSteps := 1000000) (disch := omega) only [push_cast, go_sem, Nat.reduceEqDiff, ↓reduceIte, reduceCtorEq, Nat.reduceAdd, Nat.reduceSub, Nat.reduceLeDiff, Nat.reduceLT, Int.reduceLT, Int.reduceLE, Int.reduceEq, Int.reduceNeg, Nat.reduceMul, Int.reduceAdd, Int.reduceToNat, Try.f27, *]
    repeat' (first
    | with_reducible refine And.intro ?_ ?_
    | (with_reducible intro hx; (try simp only [false_dec, true_dec, Int.ofNat_inj, gt_iff_lt, ge_iff_le, decide_eq_true_eq, decide_eq_false_iff_not, Bool.not_eq_true', Bool.not_eq_false', Bool.and_eq_true, Bool.or_eq_false_iff, ne_eq, Classical.not_not] at hx); (first | (exfalso; omega) | (try simp (maxSteps := 1000000) (disch := omega) only [push_cast, go_sem, Nat.reduceEqDiff, ↓reduceIte, reduceCtorEq, Nat.reduceAdd, Nat.reduceSub, Nat.reduceLeDiff, Nat.reduceLT, Int.reduceLT, Int.reduceLE, Int.reduceEq, Int.reduceNeg, Nat.reduceMul, Int.reduceAdd, Int.reduceToNat, *])))
    | (with_reducible refine branch_t ?_; (try simp (maxSteps := 1000000) (disch := omega) only [push_cast, go_sem, Nat.reduceEqDiff, ↓reduceIte, reduceCtorEq, Nat.reduceAdd, Nat.reduceSub, Nat.reduceLeDiff, Nat.reduceLT, Int.reduceLT, Int.reduceLE, Int.reduceEq, Int.reduceNeg, Nat.reduceMul, Int.reduceAdd, Int.reduceToNat, *]))
    | (with_reducible refine branch_f ?_; (try simp (maxSteps := 1000000) (disch := omega) only [push_cast, go_sem, Nat.reduceEqDiff, ↓reduceIte, reduceCtorEq, Nat.reduceAdd, Nat.reduceSub, Nat.reduceLeDiff, Nat.reduceLT, Int.reduceLT, Int.reduceLE, Int.reduceEq, Int.reduceNeg, Nat.reduceMul, Int.reduceAdd, Int.reduceToNat, *]))
    | (with_reducible refine cond_split ?_ ?_)
    | (with_reducible refine guard_split ?_ ?_)
    | ((with_reducible refine drw_open 0 ?_); simp (maxSteps := 1000000) (disch := omega) only [push_cast, go_sem, Nat.reduceEqDiff, ↓reduceIte, reduceCtorEq, Nat.reduceAdd, Nat.reduceSub, Nat.reduceLeDiff, Nat.reduceLT, Int.reduceLT, Int.reduceLE, Int.reduceEq, Int.reduceNeg, Nat.reduceMul, Int.reduceAdd, Int.reduceToNat, *]; (with_reducible refine drw_id ?_))
    | ((with_reducible refine drw_open 1 ?_); simp (maxSteps := 1000000) (disch := omega) only [push_cast, go_sem, Nat.reduceEqDiff, ↓reduceIte, reduceCtorEq, Nat.reduceAdd, Nat.reduceSub, Nat.reduceLeDiff, Nat.reduceLT, Int.reduceLT, Int.reduceLE, Int.reduceEq, Int.reduceNeg, Nat.reduceMul, Int.reduceAdd, Int.reduceToNat, *]; (with_reducible refine drw_id ?_))
    | ((with_reducible refine drw_open 2 ?_); simp (maxSteps := 1000000) (disch := omega) only [push_cast, go_sem, Nat.reduceEqDiff, ↓reduceIte, reduceCtorEq, Nat.reduceAdd, Nat.reduceSub, Nat.reduceLeDiff, Nat.reduceLT, Int.reduceLT, Int.reduceLE, Int.reduceEq, Int.reduceNeg, Nat.reduceMul, Int.reduceAdd, Int.reduceToNat, *]; (with_reducible refine drw_id ?_))
    | ((with_reducible refine drw_intro ?_ ?_); (focus decide +kernel); (try simp (maxSteps := 1000000) (disch := omega) only [push_cast, go_sem, Nat.reduceEqDiff, ↓reduceIte, reduceCtorEq, Nat.reduceAdd, Nat.reduceSub, Nat.reduceLeDiff, Nat.reduceLT, Int.reduceLT, Int.reduceLE, Int.reduceEq, Int.reduceNeg, Nat.reduceMul, Int.reduceAdd, Int.reduceToNat, *]))
    | (with_reducible refine still_split ?_ ?_)
    | ((with_reducible refine call_by2 [true] (at_is hs (by omega) hb) (by first | (refine ⟨?_, ?_, ?_, ?_⟩ <;> ((try simp (maxSteps := 1000000) (disch := omega) only [push_cast, go_sem, Nat.reduceEqDiff, ↓reduceIte, reduceCtorEq, Nat.reduceAdd, Nat.reduceSub, Nat.reduceLeDiff, Nat.reduceLT, Int.reduceLT, Int.reduceLE, Int.reduceEq, Int.reduceNeg, Nat.reduceMul, Int.reduceAdd, Int.reduceToNat, *]); (try rfl); (try omega); done)) | fail) ?_) <;> (try simp (maxSteps := 1000000) (disch := omega) only [push_cast, go_sem, Nat.reduceEqDiff, ↓reduceIte, reduceCtorEq, Nat.reduceAdd, Nat.reduceSub, Nat.reduceLeDiff, Nat.reduceLT, Int.reduceLT, Int.reduceLE, Int.reduceEq, Int.reduceNeg, Nat.reduceMul, Int.reduceAdd, Int.reduceToNat, *]))
    | omega)
    all_goals rfl
end Go.Ev

set_option linter.unusedVariables false
set_option linter.unusedSimpArgs false
namespace Go.Ev
set_option maxRecDepth 100000
set_option maxHeartbeats 0
open Go.Proofs
theorem fromL_spec (nx : Int) (l : List RecA) (k : List UInt8) (hs : SortedK l) (hl : l.length ≤ 140737488355328) : Spec Try.prog 47 [.fz [.int .i64 nx, .lst false 5 (l.map encA)], .str (ofL k)] (.int .i64 (lb l k)) [.fz [.int .i64 nx, .lst false 5 (l.map encA)], .str (ofL k)] := by
  refine spec_run (P := Try.prog) (f := 47) (fn := Try.f47) (by kernel_rfl) (by kernel_rfl) rfl (by simp [Try.f47]) ?_; simp (maxSteps := 1000000) (disch := omega) only [push_cast, go_sem, Nat.reduceEqDiff, ↓reduceIte, reduceCtorEq, Nat.reduceAdd, Nat.reduceSub, Nat.reduceLeDiff, Nat.reduceLT, Int.reduceLT, Int.reduceLE, Int.reduceEq, Int.reduceNeg, Nat.reduceMul, Int.reduceAdd, Int.reduceToNat, Try.f47, *]
  repeat' (first
    | with_reducible refine And.intro ?_ ?_
    | (with_reducible intro hx; (try simp only [false_dec, true_dec, Int.ofNat_inj, gt_iff_lt, ge_iff_le, decide_eq_true_eq, decide_eq_false_iff_not, Bool.not_eq_true', Bool.not_eq_false', Bool.and_eq_true, Bool.or_eq_false_iff, ne_eq, Classical.not_not] at hx); (first | (exfalso; omega) | (try simp (maxSteps := 1000000) (disch := omega) only [push_cast, go_sem, Nat.reduceEqDiff, ↓reduceIte, reduceCtorEq, Nat.reduceAdd, Nat.reduceSub, Nat.reduceLeDiff, Nat.reduceLT, Int.reduceLT, Int.reduceLE, Int.reduceEq, Int.reduceNeg, Nat.reduceMul, Int.reduceAdd, Int.reduceToNat, *])))
    | (with_reducible refine branch_t ?_; (try simp (maxSteps := 1000000) (disch := omega) only [push_cast, go_sem, Nat.reduceEqDiff, ↓reduceIte, reduceCtorEq, Nat.reduceAdd, Nat.reduceSub, Nat.reduceLeDiff, Nat.reduceLT, Int.reduceLT, Int.reduceLE, Int.reduceEq, Int.reduceNeg, Nat.reduceMul, Int.reduceAdd, Int.reduceToNat, *]))
    | (with_reducible refine branch_f ?_; (try simp (maxSteps := 1000000) (disch := omega) only [push_cast, go_sem, Nat.reduceEqDiff, ↓reduceIte, reduceCtorEq, Nat.reduceAdd, Nat.reduceSub, Nat.reduceLeDiff, Nat.reduceLT, Int.reduceLT, Int.reduceLE, Int.reduceEq, Int.reduceNeg, Nat.reduceMul, Int.reduceAdd, Int.reduceToNat, *]))
    | (with_reducible refine cond_split ?_ ?_)
    | (with_reducible refine guard_split ?_ ?_)
    | ((with_reducible refine drw_open 0 ?_); simp (maxSteps := 1000000) (disch := omega) only [push_cast, go_sem, Nat.reduceEqDiff, ↓reduceIte, reduceCtorEq, Nat.reduceAdd, Nat.reduceSub, Nat.reduceLeDiff, Nat.reduceLT, Int.reduceLT, Int.reduceLE, Int.reduceEq, Int.reduceNeg, Nat.reduceMul, Int.reduceAdd, Int.reduceToNat, *]; (with_reducible refine drw_id ?_))
    | ((with_reducible refine drw_open 1 ?_); simp (maxSteps := 1000000) (disch := omega) only [push_cast, go_sem, Nat.reduceEqDiff, ↓reduceIte, reduceCtorEq, Nat.reduceAdd, Nat.reduceSub, Nat.reduceLeDiff, Nat.reduceLT, Int.reduceLT, Int.reduceLE, Int.reduceEq, Int.reduceNeg, Nat.reduceMul, Int.reduceAdd, Int.reduceToNat, *]; (with_reducible refine drw_id ?_))
    | ((with_reducible refine drw_open 2 ?_); simp (maxSteps := 1000000) (disch := omega) only [push_cast, go_sem, Nat.reduceEqDiff, ↓reduceIte, reduceCtorEq, Nat.reduceAdd, Nat.reduceSub, Nat.reduceLeDiff, Nat.reduceLT, Int.reduceLT, Int.reduceLE, Int.reduceEq, Int.reduceNeg, Nat.reduceMul, Int.reduceAdd, Int.reduceToNat, *]; (with_reducible refine drw_id ?_))
    | ((with_reducible refine drw_intro ?_ ?_); (focus decide +kernel); (try simp (maxSteps := 1000000) (disch := omega) only [push_cast, go_sem, Nat.reduceEqDiff, ↓reduceIte, reduceCtorEq, Nat.reduceAdd, Nat.reduceSub, Nat.reduceLeDiff, Nat.reduceLT, Int.reduceLT, Int.reduceLE, Int.reduceEq, Int.reduceNeg, Nat.reduceMul, Int.reduceAdd, Int.reduceToNat, *]))
    | (with_reducible refine still_split ?_ ?_)
    | ((with_reducible refine call_by2 [] (search_spec nx l k hs hl) (by first | (refine ⟨?_, ?_, ?_, ?_⟩ <;> ((try simp (maxSteps := 1000000) (disch := omega) only [push_cast, go_sem, Nat.reduceEqDiff, ↓reduceIte, reduceCtorEq, Nat.reduceAdd, Nat.reduceSub, Nat.reduceLeDiff, Nat.reduceLT, Int.reduceLT, Int.reduceLE, Int.reduceEq, Int.reduceNeg, Nat.reduceMul, Int.reduceAdd, Int.reduceToNat, *]); (try rfl); (try omega); done)) | fail) ?_) <;> (try simp (maxSteps := 1000000) (disch := omega) only [push_cast, go_sem, Nat.reduceEqDiff, ↓reduceIte, reduceCtorEq, Nat.reduceAdd, Nat.reduceSub, Nat.reduceLeDiff, Nat.reduceLT, Int.reduceLT, Int.reduceLE, Int.reduceEq, Int.reduceNeg, Nat.reduceMul, Int.reduceAdd, Int.reduceToNat, *]))
    | omega)
def kv (r : RecA) : List UInt8 × List UInt8 := (r.key, r.val)
theorem same1_spec (a b : RecA) : Spec Try.prog 40 [.agg [.int .i64 a.off, .str (ofL a.key), .str (ofL a.val), .bool a.gone, .int .i64 a.time], .agg [.int .i64 b.off, .str (ofL b.key), .str (ofL b.val), .bool b.gone, .int .i64 b.time]] (.bool (decide (kv a = kv b)))
    [.agg [.int .i64 a.off, .str (ofL a.key), .str (ofL a.val), .bool a.gone, .int .i64 a.time], .agg [.int .i64 b.off, .str (ofL b.key), .str (ofL b.val), .bool b.gone, .int .i64 b.time]] := by
  refine spec_run (P := Try.prog) (f := 40) (fn := Try.f40) (by kernel_rfl) (by kernel_rfl) rfl (by simp [Try.f40]) ?_; simp (maxSteps := 1000000) (disch := omega) only [push_cast, go_sem, Nat.reduceEqDiff, ↓reduceIte, reduceCtorEq, Nat.reduceAdd, Nat.reduceSub, Nat.reduceLeDiff, Nat.reduceLT, Int.reduceLT, Int.reduceLE, Int.reduceEq, Int.reduceNeg, Nat.reduceMul, Int.reduceAdd, Int.reduceToNat, Try.f40, *]
  repeat' (first
    | with_reducible refine And.intro ?_ ?_
    | (with_reducible intro hx; (try simp only [false_dec, true_dec, Int.ofNat_inj, gt_iff_lt, ge_iff_le, decide_eq_true_eq, decide_eq_false_iff_not, Bool.not_eq_true', Bool.not_eq_false', Bool.and_eq_true, Bool.or_eq_false_iff, ne_eq, Classical.not_not] at hx); (first | (exfalso; omega) | (try simp (maxSteps := 1000000) (disch := omega) only [push_cast, go_sem, Nat.reduceEqDiff, ↓reduceIte, reduceCtorEq, Nat.reduceAdd, Nat.reduceSub, Nat.reduceLeDiff, Nat.reduceLT, Int.reduceLT, Int.reduceLE, Int.reduceEq, Int.reduceNeg, Nat.reduceMul, Int.reduceAdd, Int.reduceToNat, *])))
    | (with_reducible refine branch_t ?_; (try simp (maxSteps := 1000000) (disch := omega) only [push_cast, go_sem, Nat.reduceEqDiff, ↓reduceIte, reduceCtorEq, Nat.reduceAdd, Nat.reduceSub, Nat.reduceLeDiff, Nat.reduceLT, Int.reduceLT, Int.reduceLE, Int.reduceEq, Int.reduceNeg, Nat.reduceMul, Int.reduceAdd, Int.reduceToNat, *]))
    | (with_reducible refine branch_f ?_; (try simp (maxSteps := 1000000) (disch := omega) only [push_cast, go_sem, Nat.reduceEqDiff, ↓reduceIte, reduceCtorEq, Nat.reduceAdd, Nat.reduceSub, Nat.reduceLeDiff, Nat.reduceLT, Int.reduceLT, Int.reduceLE, Int.reduceEq, Int.reduceNeg, Nat.reduceMul, Int.reduceAdd, Int.reduceToNat, *]))
    | (with_reducible refine cond_split ?_ ?_)
    | (with_reducible refine guard_split ?_ ?_)
    | ((with_reducible refine drw_open 0 ?_); simp (maxSteps := 1000000) (disch := omega) only [push_cast, go_sem, Nat.reduceEqDiff, ↓reduceIte, reduceCtorEq, Nat.reduceAdd, Nat.reduceSub, Nat.reduceLeDiff, Nat.reduceLT, Int.reduceLT, Int.reduceLE, Int.reduceEq, Int.reduceNeg, Nat.reduceMul, Int.reduceAdd, Int.reduceToNat, *]; (with_reducible refine drw_id ?_))
    | ((with_reducible refine drw_open 1 ?_); simp (maxSteps := 1000000) (disch := omega) only [push_cast, go_sem, Nat.reduceEqDiff, ↓reduceIte, reduceCtorEq, Nat.reduceAdd, Nat.reduceSub, Nat.reduceLeDiff, Nat.reduceLT, Int.reduceLT, Int.reduceLE, Int.reduceEq, Int.reduceNeg, Nat.reduceMul, Int.reduceAdd, Int.reduceToNat, *]; (with_reducible refine drw_id ?_))
    | ((with_reducible refine drw_open 2 ?_); simp (maxSteps := 1000000) (disch := omega) only [push_cast, go_sem, Nat.reduceEqDiff, ↓reduceIte, reduceCtorEq, Nat.reduceAdd, Nat.reduceSub, Nat.reduceLeDiff, Nat.reduceLT, Int.reduceLT, Int.reduceLE, Int.reduceEq, Int.reduceNeg, Nat.reduceMul, Int.reduceAdd, Int.reduceToNat, *]; (with_reducible refine drw_id ?_))
    | ((with_reducible refine drw_intro ?_ ?_); (focus decide +kernel); (try simp (maxSteps := 1000000) (disch := omega) only [push_cast, go_sem, Nat.reduceEqDiff, ↓reduceIte, reduceCtorEq, Nat.reduceAdd, Nat.reduceSub, Nat.reduceLeDiff, Nat.reduceLT, Int.reduceLT, Int.reduceLE, Int.reduceEq, Int.reduceNeg, Nat.reduceMul, Int.reduceAdd, Int.reduceToNat, *]))
    | (with_reducible refine still_split ?_ ?_)
    | omega)
  all_goals simp [kv, *]
theorem eqf_spec (f g : Bool) (a b : List RecA) : Spec Try.prog 39 [.lst f 5 (a.map encA), .lst g 5 (b.map encA), .clo 40 []] (.bool (decide (a.map kv = b.map kv))) [.lst f 5 (a.map encA), .lst g 5 (b.map encA), .clo 40 []] := by
  refine spec_run (P := Try.prog) (f := 39) (fn := Try.f39) (by kernel_rfl) (by kernel_rfl) rfl (by simp [Try.f39]) ?_; simp (maxSteps := 1000000) (disch := omega) only [push_cast, go_sem, Nat.reduceEqDiff, ↓reduceIte, reduceCtorEq, Nat.reduceAdd, Nat.reduceSub, Nat.reduceLeDiff, Nat.reduceLT, Int.reduceLT, Int.reduceLE, Int.reduceEq, Int.reduceNeg, Nat.reduceMul, Int.reduceAdd, Int.reduceToNat, Try.f39, *]
  repeat' (first
    | with_reducible refine And.intro ?_ ?_
    | (with_reducible intro hx; (try simp only [false_dec, true_dec, Int.ofNat_inj, gt_iff_lt, ge_iff_le, decide_eq_true_eq, decide_eq_false_iff_not, Bool.not_eq_true', Bool.not_eq_false', Bool.and_eq_true, Bool.or_eq_false_iff, ne_eq, Classical.not_not] at hx); (first | (exfalso; omega) | (try simp (maxSteps := 1000000) (disch := omega) only [push_cast, go_sem, Nat.reduceEqDiff, ↓reduceIte, reduceCtorEq, Nat.reduceAdd, Nat.reduceSub, Nat.reduceLeDiff, Nat.reduceLT, Int.reduceLT, Int.reduceLE, Int.reduceEq, Int.reduceNeg, Nat.reduceMul, Int.reduceAdd, Int.reduceToNat, *])))
    | (with_reducible refine branch_t ?_; (try simp (maxSteps := 1000000) (disch := omega) only [push_cast, go_sem, Nat.reduceEqDiff, ↓reduceIte, reduceCtorEq, Nat.reduceAdd, Nat.reduceSub, Nat.reduceLeDiff, Nat.reduceLT, Int.reduceLT, Int.reduceLE, Int.reduceEq, Int.reduceNeg, Nat.reduceMul, Int.reduceAdd, Int.reduceToNat, *]))
    | (with_reducible refine branch_f ?_; (try simp (maxSteps := 1000000) (disch := omega) only [push_cast, go_sem, Nat.reduceEqDiff, ↓reduceIte, reduceCtorEq, Nat.reduceAdd, Nat.reduceSub, Nat.reduceLeDiff, Nat.reduceLT, Int.reduceLT, Int.reduceLE, Int.reduceEq, Int.reduceNeg, Nat.reduceMul, Int.reduceAdd, Int.reduceToNat, *]))
    | (with_reducible refine cond_split ?_ ?_)
    | (with_reducible refine guard_split ?_ ?_)
    | ((with_reducible refine drw_open 0 ?_); simp (maxSteps := 1000000) (disch := omega) only [push_cast, go_sem, Nat.reduceEqDiff, ↓reduceIte, reduceCtorEq, Nat.reduceAdd, Nat.reduceSub, Nat.reduceLeDiff, Nat.reduceLT, Int.reduceLT, Int.reduceLE, Int.reduceEq, Int.reduceNeg, Nat.reduceMul, Int.reduceAdd, Int.reduceToNat, *]; (with_reducible refine drw_id ?_))
    | ((with_reducible refine drw_open 1 ?_); simp (maxSteps := 1000000) (disch := omega) only [push_cast, go_sem, Nat.reduceEqDiff, ↓reduceIte, reduceCtorEq, Nat.reduceAdd, Nat.reduceSub, Nat.reduceLeDiff, Nat.reduceLT, Int.reduceLT, Int.reduceLE, Int.reduceEq, Int.reduceNeg, Nat.reduceMul, Int.reduceAdd, Int.reduceToNat, *]; (with_reducible refine drw_id ?_))
    | ((with_reducible refine drw_open 2 ?_); simp (maxSteps := 1000000) (disch := omega) only [push_cast, go_sem, Nat.reduceEqDiff, ↓reduceIte, reduceCtorEq, Nat.reduceAdd, Nat.reduceSub, Nat.reduceLeDiff, Nat.reduceLT, Int.reduceLT, Int.reduceLE, Int.reduceEq, Int.reduceNeg, Nat.reduceMul, Int.reduceAdd, Int.reduceToNat, *]; (with_reducible refine drw_id ?_))
    | ((with_reducible refine drw_intro ?_ ?_); (focus decide +kernel); (try simp (maxSteps := 1000000) (disch := omega) only [push_cast, go_sem, Nat.reduceEqDiff, ↓reduceIte, reduceCtorEq, Nat.reduceAdd, Nat.reduceSub, Nat.reduceLeDiff, Nat.reduceLT, Int.reduceLT, Int.reduceLE, Int.reduceEq, Int.reduceNeg, Nat.reduceMul, Int.reduceAdd, Int.reduceToNat, *]))
    | (with_reducible refine still_split ?_ ?_)
    | omega)
  · have : a.map kv ≠ b.map kv := fun e => hx (by simpa using congrArg List.length e)
    simp [this]
  · refine loop_by (σ := Nat) (fun i N => ([(17, .int .i64 i), (16, .int .i64 a.length), (15, .lst f 5 (a.map encA)), (0, .lst f 5 (a.map encA)), (1, .lst g 5 (b.map encA)), (2, .clo 40 [])], []))
      (fun i => i ≤ a.length ∧ (a.take i).map kv = (b.take i).map kv) (fun i => a.length - i) 0 _ (by simp) (by simp (maxSteps := 1000000) (disch := omega) only [push_cast, go_sem, Nat.reduceEqDiff, ↓reduceIte, reduceCtorEq, Nat.reduceAdd, Nat.reduceSub, Nat.reduceLeDiff, Nat.reduceLT, Int.reduceLT, Int.reduceLE, Int.reduceEq, Int.reduceNeg, Nat.reduceMul, Int.reduceAdd, Int.reduceToNat, *]) (by simp (maxSteps := 1000000) (disch := omega) only [push_cast, go_sem, Nat.reduceEqDiff, ↓reduceIte, reduceCtorEq, Nat.reduceAdd, Nat.reduceSub, Nat.reduceLeDiff, Nat.reduceLT, Int.reduceLT, Int.reduceLE, Int.reduceEq, Int.reduceNeg, Nat.reduceMul, Int.reduceAdd, Int.reduceToNat, *]) (Nat.le_refl _) ?_
    rintro i N hN ⟨hi, hinv⟩
    simp (maxSteps := 1000000) (disch := omega) only [push_cast, go_sem, Nat.reduceEqDiff, ↓reduceIte, reduceCtorEq, Nat.reduceAdd, Nat.reduceSub, Nat.reduceLeDiff, Nat.reduceLT, Int.reduceLT, Int.reduceLE, Int.reduceEq, Int.reduceNeg, Nat.reduceMul, Int.reduceAdd, Int.reduceToNat, *]
    repeat' (first
    | with_reducible refine And.intro ?_ ?_
    | (with_reducible intro hx; (try simp only [false_dec, true_dec, Int.ofNat_inj, gt_iff_lt, ge_iff_le, decide_eq_true_eq, decide_eq_false_iff_not, Bool.not_eq_true', Bool.not_eq_false', Bool.and_eq_true, Bool.or_eq_false_iff, ne_eq, Classical.not_not] at hx); (first | (exfalso; omega) | (try simp (maxSteps := 1000000) (disch := omega) only [push_cast, go_sem, Nat.reduceEqDiff, ↓reduceIte, reduceCtorEq, Nat.reduceAdd, Nat.reduceSub, Nat.reduceLeDiff, Nat.reduceLT, Int.reduceLT, Int.reduceLE, Int.reduceEq, Int.reduceNeg, Nat.reduceMul, Int.reduceAdd, Int.reduceToNat, *])))
    | (with_reducible refine branch_t ?_; (try simp (maxSteps := 1000000) (disch := omega) only [push_cast, go_sem, Nat.reduceEqDiff, ↓reduceIte, reduceCtorEq, Nat.reduceAdd, Nat.reduceSub, Nat.reduceLeDiff, Nat.reduceLT, Int.reduceLT, Int.reduceLE, Int.reduceEq, Int.reduceNeg, Nat.reduceMul, Int.reduceAdd, Int.reduceToNat, *]))
    | (with_reducible refine branch_f ?_; (try simp (maxSteps := 1000000) (disch := omega) only [push_cast, go_sem, Nat.reduceEqDiff, ↓reduceIte, reduceCtorEq, Nat.reduceAdd, Nat.reduceSub, Nat.reduceLeDiff, Nat.reduceLT, Int.reduceLT, Int.reduceLE, Int.reduceEq, Int.reduceNeg, Nat.reduceMul, Int.reduceAdd, Int.reduceToNat, *]))
    | (with_reducible refine cond_split ?_ ?_)
    | (with_reducible refine guard_split ?_ ?_)
    | ((with_reducible refine drw_open 0 ?_); simp (maxSteps := 1000000) (disch := omega) only [push_cast, go_sem, Nat.reduceEqDiff, ↓reduceIte, reduceCtorEq, Nat.reduceAdd, Nat.reduceSub, Nat.reduceLeDiff, Nat.reduceLT, Int.reduceLT, Int.reduceLE, Int.reduceEq, Int.reduceNeg, Nat.reduceMul, Int.reduceAdd, Int.reduceToNat, *]; (with_reducible refine drw_id ?_))
    | ((with_reducible refine drw_open 1 ?_); simp (maxSteps := 1000000) (disch := omega) only [push_cast, go_sem, Nat.reduceEqDiff, ↓reduceIte, reduceCtorEq, Nat.reduceAdd, Nat.reduceSub, Nat.reduceLeDiff, Nat.reduceLT, Int.reduceLT, Int.reduceLE, Int.reduceEq, Int.reduceNeg, Nat.reduceMul, Int.reduceAdd, Int.reduceToNat, *]; (with_reducible refine drw_id ?_))
    | ((with_reducible refine drw_open 2 ?_); simp (maxSteps := 1000000) (disch := omega) only [push_cast, go_sem, Nat.reduceEqDiff, ↓reduceIte, reduceCtorEq, Nat.reduceAdd, Nat.reduceSub, Nat.reduceLeDiff, Nat.reduceLT, Int.reduceLT, Int.reduceLE, Int.reduceEq, Int.reduceNeg, Nat.reduceMul, Int.reduceAdd, Int.reduceToNat, *]; (with_reducible refine drw_id ?_))
    | ((with_reducible refine drw_intro ?_ ?_); (focus decide +kernel); (try simp (maxSteps := 1000000) (disch := omega) only [push_cast, go_sem, Nat.reduceEqDiff, ↓reduceIte, reduceCtorEq, Nat.reduceAdd, Nat.reduceSub, Nat.reduceLeDiff, Nat.reduceLT, Int.reduceLT, Int.reduceLE, Int.reduceEq, Int.reduceNeg, Nat.reduceMul, Int.reduceAdd, Int.reduceToNat, *]))
    | (with_reducible refine still_split ?_ ?_)
    | ((with_reducible refine call_by2 [] (same1_spec _ _) (by first | (refine ⟨?_, ?_, ?_, ?_⟩ <;> ((try simp (maxSteps := 1000000) (disch := omega) only [push_cast, go_sem, Nat.reduceEqDiff, ↓reduceIte, reduceCtorEq, Nat.reduceAdd, Nat.reduceSub, Nat.reduceLeDiff, Nat.reduceLT, Int.reduceLT, Int.reduceLE, Int.reduceEq, Int.reduceNeg, Nat.reduceMul, Int.reduceAdd, Int.reduceToNat, *]); (try rfl); (try omega); done)) | fail) ?_) <;> (try simp (maxSteps := 1000000) (disch := omega) only [push_cast, go_sem, Nat.reduceEqDiff, ↓reduceIte, reduceCtorEq, Nat.reduceAdd, Nat.reduceSub, Nat.reduceLeDiff, Nat.reduceLT, Int.reduceLT, Int.reduceLE, Int.reduceEq, Int.reduceNeg, Nat.reduceMul, Int.reduceAdd, Int.reduceToNat, *]))
    | omega)
    · have : a.map kv ≠ b.map kv := fun e => hx (by
        have h1 := congrArg (fun l => l[i]?) e
        simpa [List.getElem?_eq_getElem (show i < a.length by omega), List.getElem?_eq_getElem (show i < b.length by omega)] using h1)
      simp [this]
    · refine loop_end (i + 1) _ (by omega) ⟨by omega, ?_⟩ (by omega) (by simp (maxSteps := 1000000) (disch := omega) only [push_cast, go_sem, Nat.reduceEqDiff, ↓reduceIte, reduceCtorEq, Nat.reduceAdd, Nat.reduceSub, Nat.reduceLeDiff, Nat.reduceLT, Int.reduceLT, Int.reduceLE, Int.reduceEq, Int.reduceNeg, Nat.reduceMul, Int.reduceAdd, Int.reduceToNat, *]) (by simp (maxSteps := 1000000) (disch := omega) only [push_cast, go_sem, Nat.reduceEqDiff, ↓reduceIte, reduceCtorEq, Nat.reduceAdd, Nat.reduceSub, Nat.reduceLeDiff, Nat.reduceLT, Int.reduceLT, Int.reduceLE, Int.reduceEq, Int.reduceNeg, Nat.reduceMul, Int.reduceAdd, Int.reduceToNat, *]) (Nat.le_refl _)
      rw [List.take_add_one, List.take_add_one, List.getElem?_eq_getElem (by omega), List.getElem?_eq_getElem (by omega)]
      simp only [List.map_append, hinv, Option.toList_some, List.map_cons, List.map_nil, hx]
    · have : a.map kv = b.map kv := by
        rw [List.take_of_length_le (by omega), List.take_of_length_le (by omega)] at hinv; exact hinv
      simp [this]
theorem tsame_spec (nx ny : Int) (a b : List RecA) : Spec Try.prog 18 [.optr (.agg [.int .i64 nx, .olst 5 (a.map encA)]) 0, .optr (.agg [.int .i64 ny, .olst 5 (b.map encA)]) 0] (.bool (decide (a.map kv = b.map kv)))
    [.optr (.agg [.int .i64 nx, .olst 5 (a.map encA)]) 0, .optr (.agg [.int .i64 ny, .olst 5 (b.map encA)]) 0] := by
  refine spec_run (P := Try.prog) (f := 18) (fn := Try.f18) (by kernel_rfl) (by kernel_rfl) rfl (by simp [Try.f18]) ?_; simp (maxSteps := 1000000) (disch := omega) only [push_cast, go_sem, Nat.reduceEqDiff, ↓reduceIte, reduceCtorEq, Nat.reduceAdd, Nat.reduceSub, Nat.reduceLeDiff, Nat.reduceLT, Int.reduceLT, Int.reduceLE, Int.reduceEq, Int.reduceNeg, Nat.reduceMul, Int.reduceAdd, Int.reduceToNat, Try.f18, *]
  repeat' (first
    | with_reducible refine And.intro ?_ ?_
    | (with_reducible intro hx; (try simp only [false_dec, true_dec, Int.ofNat_inj, gt_iff_lt, ge_iff_le, decide_eq_true_eq, decide_eq_false_iff_not, Bool.not_eq_true', Bool.not_eq_false', Bool.and_eq_true, Bool.or_eq_false_iff, ne_eq, Classical.not_not] at hx); (first | (exfalso; omega) | (try simp (maxSteps := 1000000) (disch := omega) only [push_cast, go_sem, Nat.reduceEqDiff, ↓reduceIte, reduceCtorEq, Nat.reduceAdd, Nat.reduceSub, Nat.reduceLeDiff, Nat.reduceLT, Int.reduceLT, Int.reduceLE, Int.reduceEq, Int.reduceNeg, Nat.reduceMul, Int.reduceAdd, Int.reduceToNat, *])))
    | (with_reducible refine branch_t ?_; (try simp (maxSteps := 1000000) (disch := omega) only [push_cast, go_sem, Nat.reduceEqDiff, ↓reduceIte, reduceCtorEq, Nat.reduceAdd, Nat.reduceSub, Nat.reduceLeDiff, Nat.reduceLT, Int.reduceLT, Int.reduceLE, Int.reduceEq, Int.reduceNeg, Nat.reduceMul, Int.reduceAdd, Int.reduceToNat, *]))
    | (with_reducible refine branch_f ?_; (try simp (maxSteps := 1000000) (disch := omega) only [push_cast, go_sem, Nat.reduceEqDiff, ↓reduceIte, reduceCtorEq, Nat.reduceAdd, Nat.reduceSub, Nat.reduceLeDiff, Nat.reduceLT, Int.reduceLT, Int.reduceLE, Int.reduceEq, Int.reduceNeg, Nat.reduceMul, Int.reduceAdd, Int.reduceToNat, *]))
    | (with_reducible refine cond_split ?_ ?_)
    | (with_reducible refine guard_split ?_ ?_)
    | ((with_reducible refine drw_open 0 ?_); simp (maxSteps := 1000000) (disch := omega) only [push_cast, go_sem, Nat.reduceEqDiff, ↓reduceIte, reduceCtorEq, Nat.reduceAdd, Nat.reduceSub, Nat.reduceLeDiff, Nat.reduceLT, Int.reduceLT, Int.reduceLE, Int.reduceEq, Int.reduceNeg, Nat.reduceMul, Int.reduceAdd, Int.reduceToNat, *]; (with_reducible refine drw_id ?_))
    | ((with_reducible refine drw_open 1 ?_); simp (maxSteps := 1000000) (disch := omega) only [push_cast, go_sem, Nat.reduceEqDiff, ↓reduceIte, reduceCtorEq, Nat.reduceAdd, Nat.reduceSub, Nat.reduceLeDiff, Nat.reduceLT, Int.reduceLT, Int.reduceLE, Int.reduceEq, Int.reduceNeg, Nat.reduceMul, Int.reduceAdd, Int.reduceToNat, *]; (with_reducible refine drw_id ?_))
    | ((with_reducible refine drw_open 2 ?_); simp (maxSteps := 1000000) (disch := omega) only [push_cast, go_sem, Nat.reduceEqDiff, ↓reduceIte, reduceCtorEq, Nat.reduceAdd, Nat.reduceSub, Nat.reduceLeDiff, Nat.reduceLT, Int.reduceLT, Int.reduceLE, Int.reduceEq, Int.reduceNeg, Nat.reduceMul, Int.reduceAdd, Int.reduceToNat, *]; (with_reducible refine drw_id ?_))
    | ((with_reducible refine drw_intro ?_ ?_); (focus decide +kernel); (try simp (maxSteps := 1000000) (disch := omega) only [push_cast, go_sem, Nat.reduceEqDiff, ↓reduceIte, reduceCtorEq, Nat.reduceAdd, Nat.reduceSub, Nat.reduceLeDiff, Nat.reduceLT, Int.reduceLT, Int.reduceLE, Int.reduceEq, Int.reduceNeg, Nat.reduceMul, Int.reduceAdd, Int.reduceToNat, *]))
    | (with_reducible refine still_split ?_ ?_)
    | ((with_reducible refine call_by2 [] (eqf_spec _ _ _ _) (by first | (refine ⟨?_, ?_, ?_, ?_⟩ <;> ((try simp (maxSteps := 1000000) (disch := omega) only [push_cast, go_sem, Nat.reduceEqDiff, ↓reduceIte, reduceCtorEq, Nat.reduceAdd, Nat.reduceSub, Nat.reduceLeDiff, Nat.reduceLT, Int.reduceLT, Int.reduceLE, Int.reduceEq, Int.reduceNeg, Nat.reduceMul, Int.reduceAdd, Int.reduceToNat, *]); (try rfl); (try omega); done)) | fail) ?_) <;> (try simp (maxSteps := 1000000) (disch := omega) only [push_cast, go_sem, Nat.reduceEqDiff, ↓reduceIte, reduceCtorEq, Nat.reduceAdd, Nat.reduceSub, Nat.reduceLeDiff, Nat.reduceLT, Int.reduceLT, Int.reduceLE, Int.reduceEq, Int.reduceNeg, Nat.reduceMul, Int.reduceAdd, Int.reduceToNat, *]))
    | omega)
/-- Records are applied. -/
def applyL (l q : List RecA) : List RecA := q.foldl tset l
def applyN (nx : Int) (q : List RecA) : Int := match q.getLast? with
  | some r => IntKind.i64.wrap (r.off + 1)
  | none => nx
def riseF (f : Int) (q : List RecA) : Bool := (match q with | r :: _ => decide (f ≤ r.off) | [] => true) && riseL q
def okQ (nx : Int) (q : List RecA) : Bool := riseF nx q && (match q.getLast? with | some r => decide (r.off ≤ 1099511627776) | none => true)
theorem risef_spec (fl : Bool) (f : Int) (q : List RecA) : Spec Try.prog 37 [.int .i64 f, .lst fl 5 (q.map encA)] (.bool (riseF f q)) [.int .i64 f, .lst fl 5 (q.map encA)] := by
  cases q with
  | nil => exact rise_spec fl f [] (fun h => by simp at h)
  | cons r q =>
    by_cases h : f ≤ r.off
    · have := rise_spec fl f (r :: q) (fun _ => h)
      simpa [riseF, h] using this
    · have := rise_low fl f (r :: q) (by simp) (by simpa using h)
      simpa [riseF, h] using this
theorem risef_is {fl : Bool} {f : Int} {q : List RecA} {b : Bool} (h : riseF f q = b) : Spec Try.prog 37 [.int .i64 f, .lst fl 5 (q.map encA)] (.bool b) [.int .i64 f, .lst fl 5 (q.map encA)] := h ▸ risef_spec fl f q
theorem lastq_get {q : List RecA} (h : 0 < q.length) : q.getLast? = some q[q.length - 1] := by
  rw [List.getLast?_eq_getElem?, List.getElem?_eq_getElem (by omega)]
theorem applyL_sorted {l q : List RecA} (hs : SortedK l) : SortedK (applyL l q) := by
  unfold applyL
  induction q generalizing l with
  | nil => exact hs
  | cons r q ih => exact ih (tset_sorted hs)
theorem applyL_len {l q : List RecA} : (applyL l q).length ≤ l.length + q.length := by
  unfold applyL
  induction q generalizing l with
  | nil => simp
  | cons r q ih =>
    have h1 := ih (l := tset l r)
    have h2 := tset_len (l := l) (r := r)
    simp only [List.foldl_cons, List.length_cons]
    omega
theorem take_succ' {α : Type} {q : List α} {i : Nat} (h : i < q.length) : q.take (i + 1) = q.take i ++ [q[i]] := by rw [List.take_add_one, List.getElem?_eq_getElem h]; rfl
theorem applyN_succ {nx : Int} {q : List RecA} {i : Nat} (h : i < q.length) : applyN nx (q.take (i + 1)) = IntKind.i64.wrap (q[i].off + 1) := by
  rw [take_succ' h, applyN, List.getLast?_concat]
theorem applyL_succ {l q : List RecA} {i : Nat} (h : i < q.length) : applyL l (q.take (i + 1)) = tset (applyL l (q.take i)) q[i] := by
  rw [take_succ' h, applyL, List.foldl_append]; rfl
theorem apply_ok {fl : Bool} {nx : Int} {l q : List RecA} (hs : SortedK l) (hl : l.length + q.length ≤ 10000) (hok : okQ nx q = true) : Spec Try.prog 17 [.optr (.agg [.int .i64 nx, .olst 5 (l.map encA)]) 0, .lst fl 5 (q.map encA)] (.int .i64 0)
    [.optr (.agg [.int .i64 (applyN nx q), .olst 5 ((applyL l q).map encA)]) 0, .lst fl 5 (q.map encA)] := by
  have h1 : riseF nx q = true := by simp only [okQ, Bool.and_eq_true] at hok; exact hok.1
  have h2 : ∀ h : 0 < q.length, q[q.length - 1].off ≤ 1099511627776 := fun h => by
    rw [okQ, lastq_get h] at hok; simp at hok; exact hok.2
  refine spec_run (P := Try.prog) (f := 17) (fn := Try.f17) (by kernel_rfl) (by kernel_rfl) rfl (by simp [Try.f17]) ?_; simp (maxSteps := 1000000) (disch := omega) only [push_cast, go_sem, Nat.reduceEqDiff, ↓reduceIte, reduceCtorEq, Nat.reduceAdd, Nat.reduceSub, Nat.reduceLeDiff, Nat.reduceLT, Int.reduceLT, Int.reduceLE, Int.reduceEq, Int.reduceNeg, Nat.reduceMul, Int.reduceAdd, Int.reduceToNat, Try.f17, *]
  repeat' (first
    | with_reducible refine And.intro ?_ ?_
    | (with_reducible intro hx; (try simp only [false_dec, true_dec, Int.ofNat_inj, gt_iff_lt, ge_iff_le, decide_eq_true_eq, decide_eq_false_iff_not, Bool.not_eq_true', Bool.not_eq_false', Bool.and_eq_true, Bool.or_eq_false_iff, ne_eq, Classical.not_not] at hx); (first | (exfalso; omega) | (try simp (maxSteps := 1000000) (disch := omega) only [push_cast, go_sem, Nat.reduceEqDiff, ↓reduceIte, reduceCtorEq, Nat.reduceAdd, Nat.reduceSub, Nat.reduceLeDiff, Nat.reduceLT, Int.reduceLT, Int.reduceLE, Int.reduceEq, Int.reduceNeg, Nat.reduceMul, Int.reduceAdd, Int.reduceToNat, *])))
    | (with_reducible refine branch_t ?_; (try simp (maxSteps := 1000000) (disch := omega) only [push_cast, go_sem, Nat.reduceEqDiff, ↓reduceIte, reduceCtorEq, Nat.reduceAdd, Nat.reduceSub, Nat.reduceLeDiff, Nat.reduceLT, Int.reduceLT, Int.reduceLE, Int.reduceEq, Int.reduceNeg, Nat.reduceMul, Int.reduceAdd, Int.reduceToNat, *]))
    | (with_reducible refine branch_f ?_; (try simp (maxSteps := 1000000) (disch := omega) only [push_cast, go_sem, Nat.reduceEqDiff, ↓reduceIte, reduceCtorEq, Nat.reduceAdd, Nat.reduceSub, Nat.reduceLeDiff, Nat.reduceLT, Int.reduceLT, Int.reduceLE, Int.reduceEq, Int.reduceNeg, Nat.reduceMul, Int.reduceAdd, Int.reduceToNat, *]))
    | (with_reducible refine cond_split ?_ ?_)
    | (with_reducible refine guard_split ?_ ?_)
    | ((with_reducible refine drw_open 0 ?_); simp (maxSteps := 1000000) (disch := omega) only [push_cast, go_sem, Nat.reduceEqDiff, ↓reduceIte, reduceCtorEq, Nat.reduceAdd, Nat.reduceSub, Nat.reduceLeDiff, Nat.reduceLT, Int.reduceLT, Int.reduceLE, Int.reduceEq, Int.reduceNeg, Nat.reduceMul, Int.reduceAdd, Int.reduceToNat, *]; (with_reducible refine drw_id ?_))
    | ((with_reducible refine drw_open 1 ?_); simp (maxSteps := 1000000) (disch := omega) only [push_cast, go_sem, Nat.reduceEqDiff, ↓reduceIte, reduceCtorEq, Nat.reduceAdd, Nat.reduceSub, Nat.reduceLeDiff, Nat.reduceLT, Int.reduceLT, Int.reduceLE, Int.reduceEq, Int.reduceNeg, Nat.reduceMul, Int.reduceAdd, Int.reduceToNat, *]; (with_reducible refine drw_id ?_))
    | ((with_reducible refine drw_open 2 ?_); simp (maxSteps := 1000000) (disch := omega) only [push_cast, go_sem, Nat.reduceEqDiff, ↓reduceIte, reduceCtorEq, Nat.reduceAdd, Nat.reduceSub, Nat.reduceLeDiff, Nat.reduceLT, Int.reduceLT, Int.reduceLE, Int.reduceEq, Int.reduceNeg, Nat.reduceMul, Int.reduceAdd, Int.reduceToNat, *]; (with_reducible refine drw_id ?_))
    | ((with_reducible refine drw_intro ?_ ?_); (focus decide +kernel); (try simp (maxSteps := 1000000) (disch := omega) only [push_cast, go_sem, Nat.reduceEqDiff, ↓reduceIte, reduceCtorEq, Nat.reduceAdd, Nat.reduceSub, Nat.reduceLeDiff, Nat.reduceLT, Int.reduceLT, Int.reduceLE, Int.reduceEq, Int.reduceNeg, Nat.reduceMul, Int.reduceAdd, Int.reduceToNat, *]))
    | (with_reducible refine still_split ?_ ?_)
    | ((with_reducible refine call_by2 [] (risef_is h1) (by first | (refine ⟨?_, ?_, ?_, ?_⟩ <;> ((try simp (maxSteps := 1000000) (disch := omega) only [push_cast, go_sem, Nat.reduceEqDiff, ↓reduceIte, reduceCtorEq, Nat.reduceAdd, Nat.reduceSub, Nat.reduceLeDiff, Nat.reduceLT, Int.reduceLT, Int.reduceLE, Int.reduceEq, Int.reduceNeg, Nat.reduceMul, Int.reduceAdd, Int.reduceToNat, *]); (try rfl); (try omega); done)) | fail) ?_) <;> (try simp (maxSteps := 1000000) (disch := omega) only [push_cast, go_sem, Nat.reduceEqDiff, ↓reduceIte, reduceCtorEq, Nat.reduceAdd, Nat.reduceSub, Nat.reduceLeDiff, Nat.reduceLT, Int.reduceLT, Int.reduceLE, Int.reduceEq, Int.reduceNeg, Nat.reduceMul, Int.reduceAdd, Int.reduceToNat, *]))
    | omega)
  all_goals first
    | (have := h2 (by omega); omega)
    | (refine loop_by (σ := Nat) (fun i N => ([(35, .int .i64 i), (34, .int .i64 q.length), (33, .lst fl 5 (q.map encA)), (0, .loc 0 0), (1, .lst fl 5 (q.map encA))], [(0, .obj (.agg [.int .i64 (applyN nx (q.take i)), .olst 5 ((applyL l (q.take i)).map encA)]))]))
         (fun i => i ≤ q.length) (fun i => q.length - i) 0 _ (by simp) (by simp (maxSteps := 1000000) (disch := omega) only [push_cast, go_sem, Nat.reduceEqDiff, ↓reduceIte, reduceCtorEq, Nat.reduceAdd, Nat.reduceSub, Nat.reduceLeDiff, Nat.reduceLT, Int.reduceLT, Int.reduceLE, Int.reduceEq, Int.reduceNeg, Nat.reduceMul, Int.reduceAdd, Int.reduceToNat, *]) (by simp (maxSteps := 1000000) (disch := omega) only [push_cast, go_sem, Nat.reduceEqDiff, ↓reduceIte, reduceCtorEq, Nat.reduceAdd, Nat.reduceSub, Nat.reduceLeDiff, Nat.reduceLT, Int.reduceLT, Int.reduceLE, Int.reduceEq, Int.reduceNeg, Nat.reduceMul, Int.reduceAdd, Int.reduceToNat, *] <;> simp [applyN, applyL]) (Nat.le_refl _) ?_
       rintro i N hN hi
       simp (maxSteps := 1000000) (disch := omega) only [push_cast, go_sem, Nat.reduceEqDiff, ↓reduceIte, reduceCtorEq, Nat.reduceAdd, Nat.reduceSub, Nat.reduceLeDiff, Nat.reduceLT, Int.reduceLT, Int.reduceLE, Int.reduceEq, Int.reduceNeg, Nat.reduceMul, Int.reduceAdd, Int.reduceToNat, *]
       repeat' (first
    | with_reducible refine And.intro ?_ ?_
    | (with_reducible intro hx; (try simp only [false_dec, true_dec, Int.ofNat_inj, gt_iff_lt, ge_iff_le, decide_eq_true_eq, decide_eq_false_iff_not, Bool.not_eq_true', Bool.not_eq_false', Bool.and_eq_true, Bool.or_eq_false_iff, ne_eq, Classical.not_not] at hx); (first | (exfalso; omega) | (try simp (maxSteps := 1000000) (disch := omega) only [push_cast, go_sem, Nat.reduceEqDiff, ↓reduceIte, reduceCtorEq, Nat.reduceAdd, Nat.reduceSub, Nat.reduceLeDiff, Nat.reduceLT, Int.reduceLT, Int.reduceLE, Int.reduceEq, Int.reduceNeg, Nat.reduceMul, Int.reduceAdd, Int.reduceToNat, *])))
    | (with_reducible refine branch_t ?_; (try simp (maxSteps := 1000000) (disch := omega) only [push_cast, go_sem, Nat.reduceEqDiff, ↓reduceIte, reduceCtorEq, Nat.reduceAdd, Nat.reduceSub, Nat.reduceLeDiff, Nat.reduceLT, Int.reduceLT, Int.reduceLE, Int.reduceEq, Int.reduceNeg, Nat.reduceMul, Int.reduceAdd, Int.reduceToNat, *]))
    | (with_reducible refine branch_f ?_; (try simp (maxSteps := 1000000) (disch := omega) only [push_cast, go_sem, Nat.reduceEqDiff, ↓reduceIte, reduceCtorEq, Nat.reduceAdd, Nat.reduceSub, Nat.reduceLeDiff, Nat.reduceLT, Int.reduceLT, Int.reduceLE, Int.reduceEq, Int.reduceNeg, Nat.reduceMul, Int.reduceAdd, Int.reduceToNat, *]))
    | (with_reducible refine cond_split ?_ ?_)
    | (with_reducible refine guard_split ?_ ?_)
    | ((with_reducible refine drw_open 0 ?_); simp (maxSteps := 1000000) (disch := omega) only [push_cast, go_sem, Nat.reduceEqDiff, ↓reduceIte, reduceCtorEq, Nat.reduceAdd, Nat.reduceSub, Nat.reduceLeDiff, Nat.reduceLT, Int.reduceLT, Int.reduceLE, Int.reduceEq, Int.reduceNeg, Nat.reduceMul, Int.reduceAdd, Int.reduceToNat, *]; (with_reducible refine drw_id ?_))
    | ((with_reducible refine drw_open 1 ?_); simp (maxSteps := 1000000) (disch := omega) only [push_cast, go_sem, Nat.reduceEqDiff, ↓reduceIte, reduceCtorEq, Nat.reduceAdd, Nat.reduceSub, Nat.reduceLeDiff, Nat.reduceLT, Int.reduceLT, Int.reduceLE, Int.reduceEq, Int.reduceNeg, Nat.reduceMul, Int.reduceAdd, Int.reduceToNat, *]; (with_reducible refine drw_id ?_))
    | ((with_reducible refine drw_open 2 ?_); simp (maxSteps := 1000000) (disch := omega) only [push_cast, go_sem, Nat.reduceEqDiff, ↓reduceIte, reduceCtorEq, Nat.reduceAdd, Nat.reduceSub, Nat.reduceLeDiff, Nat.reduceLT, Int.reduceLT, Int.reduceLE, Int.reduceEq, Int.reduceNeg, Nat.reduceMul, Int.reduceAdd, Int.reduceToNat, *]; (with_reducible refine drw_id ?_))
    | ((with_reducible refine drw_intro ?_ ?_); (focus decide +kernel); (try simp (maxSteps := 1000000) (disch := omega) only [push_cast, go_sem, Nat.reduceEqDiff, ↓reduceIte, reduceCtorEq, Nat.reduceAdd, Nat.reduceSub, Nat.reduceLeDiff, Nat.reduceLT, Int.reduceLT, Int.reduceLE, Int.reduceEq, Int.reduceNeg, Nat.reduceMul, Int.reduceAdd, Int.reduceToNat, *]))
    | (with_reducible refine still_split ?_ ?_)
    | ((with_reducible refine call_by2 [true] (set_spec (applyN nx (q.take i)) (applyL l (q.take i)) _ (applyL_sorted hs) (by have := applyL_len (l := l) (q := q.take i); simp at this; omega)) (by first | (refine ⟨?_, ?_, ?_, ?_⟩ <;> ((try simp (maxSteps := 1000000) (disch := omega) only [push_cast, go_sem, Nat.reduceEqDiff, ↓reduceIte, reduceCtorEq, Nat.reduceAdd, Nat.reduceSub, Nat.reduceLeDiff, Nat.reduceLT, Int.reduceLT, Int.reduceLE, Int.reduceEq, Int.reduceNeg, Nat.reduceMul, Int.reduceAdd, Int.reduceToNat, *]); (try rfl); (try omega); done)) | fail) ?_) <;> (try simp (maxSteps := 1000000) (disch := omega) only [push_cast, go_sem, Nat.reduceEqDiff, ↓reduceIte, reduceCtorEq, Nat.reduceAdd, Nat.reduceSub, Nat.reduceLeDiff, Nat.reduceLT, Int.reduceLT, Int.reduceLE, Int.reduceEq, Int.reduceNeg, Nat.reduceMul, Int.reduceAdd, Int.reduceToNat, *]))
    | omega))
  all_goals first
    | (refine loop_end (i + 1) _ (by omega) (by omega) (by omega) (by simp (maxSteps := 1000000) (disch := omega) only [push_cast, go_sem, Nat.reduceEqDiff, ↓reduceIte, reduceCtorEq, Nat.reduceAdd, Nat.reduceSub, Nat.reduceLeDiff, Nat.reduceLT, Int.reduceLT, Int.reduceLE, Int.reduceEq, Int.reduceNeg, Nat.reduceMul, Int.reduceAdd, Int.reduceToNat, *]) (by dsimp only; rw [applyN_succ (by assumption), applyL_succ (by assumption)]; simp (maxSteps := 1000000) (disch := omega) only [push_cast, go_sem, Nat.reduceEqDiff, ↓reduceIte, reduceCtorEq, Nat.reduceAdd, Nat.reduceSub, Nat.reduceLeDiff, Nat.reduceLT, Int.reduceLT, Int.reduceLE, Int.reduceEq, Int.reduceNeg, Nat.reduceMul, Int.reduceAdd, Int.reduceToNat, *]) (Nat.le_refl _))
    | (rw [List.take_of_length_le (by omega)])
theorem apply_no {fl : Bool} {nx : Int} {l q : List RecA} (hok : okQ nx q = false) : Spec Try.prog 17 [.optr (.agg [.int .i64 nx, .olst 5 (l.map encA)]) 0, .lst fl 5 (q.map encA)] (.int .i64 8)
    [.optr (.agg [.int .i64 nx, .olst 5 (l.map encA)]) 0, .lst fl 5 (q.map encA)] := by
  by_cases h1 : riseF nx q = true
  · have h0 : 0 < q.length := by
      rcases Nat.eq_zero_or_pos q.length with h | h
      · have : q = [] := List.length_eq_zero_iff.1 h
        subst this; simp [okQ, riseF, riseL] at hok
      · exact h
    have h2 : 1099511627776 < q[q.length - 1].off := by
      rw [okQ, lastq_get h0, h1] at hok; simpa using hok
    refine spec_run (P := Try.prog) (f := 17) (fn := Try.f17) (by kernel_rfl) (by kernel_rfl) rfl (by simp [Try.f17]) ?_; simp (maxSteps := 1000000) (disch := omega) only [push_cast, go_sem, Nat.reduceEqDiff, ↓reduceIte, reduceCtorEq, Nat.reduceAdd, Nat.reduceSub, Nat.reduceLeDiff, Nat.reduceLT, Int.reduceLT, Int.reduceLE, Int.reduceEq, Int.reduceNeg, Nat.reduceMul, Int.reduceAdd, Int.reduceToNat, Try.f17, *]
    repeat' (first
    | with_reducible refine And.intro ?_ ?_
    | (with_reducible intro hx; (try simp only [false_dec, true_dec, Int.ofNat_inj, gt_iff_lt, ge_iff_le, decide_eq_true_eq, decide_eq_false_iff_not, Bool.not_eq_true', Bool.not_eq_false', Bool.and_eq_true, Bool.or_eq_false_iff, ne_eq, Classical.not_not] at hx); (first | (exfalso; omega) | (try simp (maxSteps := 1000000) (disch := omega) only [push_cast, go_sem, Nat.reduceEqDiff, ↓reduceIte, reduceCtorEq, Nat.reduceAdd, Nat.reduceSub, Nat.reduceLeDiff, Nat.reduceLT, Int.reduceLT, Int.reduceLE, Int.reduceEq, Int.reduceNeg, Nat.reduceMul, Int.reduceAdd, Int.reduceToNat, *])))
    | (with_reducible refine branch_t ?_; (try simp (maxSteps := 1000000) (disch := omega) only [push_cast, go_sem, Nat.reduceEqDiff, ↓reduceIte, reduceCtorEq, Nat.reduceAdd, Nat.reduceSub, Nat.reduceLeDiff, Nat.reduceLT, Int.reduceLT, Int.reduceLE, Int.reduceEq, Int.reduceNeg, Nat.reduceMul, Int.reduceAdd, Int.reduceToNat, *]))
    | (with_reducible refine branch_f ?_; (try simp (maxSteps := 1000000) (disch := omega) only [push_cast, go_sem, Nat.reduceEqDiff, ↓reduceIte, reduceCtorEq, Nat.reduceAdd, Nat.reduceSub, Nat.reduceLeDiff, Nat.reduceLT, Int.reduceLT, Int.reduceLE, Int.reduceEq, Int.reduceNeg, Nat.reduceMul, Int.reduceAdd, Int.reduceToNat, *]))
    | (with_reducible refine cond_split ?_ ?_)
    | (with_reducible refine guard_split ?_ ?_)
    | ((with_reducible refine drw_open 0 ?_); simp (maxSteps := 1000000) (disch := omega) only [push_cast, go_sem, Nat.reduceEqDiff, ↓reduceIte, reduceCtorEq, Nat.reduceAdd, Nat.reduceSub, Nat.reduceLeDiff, Nat.reduceLT, Int.reduceLT, Int.reduceLE, Int.reduceEq, Int.reduceNeg, Nat.reduceMul, Int.reduceAdd, Int.reduceToNat, *]; (with_reducible refine drw_id ?_))
    | ((with_reducible refine drw_open 1 ?_); simp (maxSteps := 1000000) (disch := omega) only [push_cast, go_sem, Nat.reduceEqDiff, ↓reduceIte, reduceCtorEq, Nat.reduceAdd, Nat.reduceSub, Nat.reduceLeDiff, Nat.reduceLT, Int.reduceLT, Int.reduceLE, Int.reduceEq, Int.reduceNeg, Nat.reduceMul, Int.reduceAdd, Int.reduceToNat, *]; (with_reducible refine drw_id ?_))
    | ((with_reducible refine drw_open 2 ?_); simp (maxSteps := 1000000) (disch := omega) only [push_cast, go_sem, Nat.reduceEqDiff, ↓reduceIte, reduceCtorEq, Nat.reduceAdd, Nat.reduceSub, Nat.reduceLeDiff, Nat.reduceLT, Int.reduceLT, Int.reduceLE, Int.reduceEq, Int.reduceNeg, Nat.reduceMul, Int.reduceAdd, Int.reduceToNat, *]; (with_reducible refine drw_id ?_))
    | ((with_reducible refine drw_intro ?_ ?_); (focus decide +kernel); (try simp (maxSteps := 1000000) (disch := omega) only [push_cast, go_sem, Nat.reduceEqDiff, ↓reduceIte, reduceCtorEq, Nat.reduceAdd, Nat.reduceSub, Nat.reduceLeDiff, Nat.reduceLT, Int.reduceLT, Int.reduceLE, Int.reduceEq, Int.reduceNeg, Nat.reduceMul, Int.reduceAdd, Int.reduceToNat, *]))
    | (with_reducible refine still_split ?_ ?_)
    | ((with_reducible refine call_by2 [] (risef_is h1) (by first | (refine ⟨?_, ?_, ?_, ?_⟩ <;> ((try simp (maxSteps := 1000000) (disch := omega) only [push_cast, go_sem, Nat.reduceEqDiff, ↓reduceIte, reduceCtorEq, Nat.reduceAdd, Nat.reduceSub, Nat.reduceLeDiff, Nat.reduceLT, Int.reduceLT, Int.reduceLE, Int.reduceEq, Int.reduceNeg, Nat.reduceMul, Int.reduceAdd, Int.reduceToNat, *]); (try rfl); (try omega); done)) | fail) ?_) <;> (try simp (maxSteps := 1000000) (disch := omega) only [push_cast, go_sem, Nat.reduceEqDiff, ↓reduceIte, reduceCtorEq, Nat.reduceAdd, Nat.reduceSub, Nat.reduceLeDiff, Nat.reduceLT, Int.reduceLT, Int.reduceLE, Int.reduceEq, Int.reduceNeg, Nat.reduceMul, Int.reduceAdd, Int.reduceToNat, *]))
    | omega)
  · have h1 : riseF nx q = false := by simpa using h1
    refine spec_run (P := Try.prog) (f := 17) (fn := Try.f17) (by kernel_rfl) (by kernel_rfl) rfl (by simp [Try.f17]) ?_; simp (maxSteps := 1000000) (disch := omega) only [push_cast, go_sem, Nat.reduceEqDiff, ↓reduceIte, reduceCtorEq, Nat.reduceAdd, Nat.reduceSub, Nat.reduceLeDiff, Nat.reduceLT, Int.reduceLT, Int.reduceLE, Int.reduceEq, Int.reduceNeg, Nat.reduceMul, Int.reduceAdd, Int.reduceToNat, Try.f17, *]
    repeat' (first
    | with_reducible refine And.intro ?_ ?_
    | (with_reducible intro hx; (try simp only [false_dec, true_dec, Int.ofNat_inj, gt_iff_lt, ge_iff_le, decide_eq_true_eq, decide_eq_false_iff_not, Bool.not_eq_true', Bool.not_eq_false', Bool.and_eq_true, Bool.or_eq_false_iff, ne_eq, Classical.not_not] at hx); (first | (exfalso; omega) | (try simp (maxSteps := 1000000) (disch := omega) only [push_cast, go_sem, Nat.reduceEqDiff, ↓reduceIte, reduceCtorEq, Nat.reduceAdd, Nat.reduceSub, Nat.reduceLeDiff, Nat.reduceLT, Int.reduceLT, Int.reduceLE, Int.reduceEq, Int.reduceNeg, Nat.reduceMul, Int.reduceAdd, Int.reduceToNat, *])))
    | (with_reducible refine branch_t ?_; (try simp (maxSteps := 1000000) (disch := omega) only [push_cast, go_sem, Nat.reduceEqDiff, ↓reduceIte, reduceCtorEq, Nat.reduceAdd, Nat.reduceSub, Nat.reduceLeDiff, Nat.reduceLT, Int.reduceLT, Int.reduceLE, Int.reduceEq, Int.reduceNeg, Nat.reduceMul, Int.reduceAdd, Int.reduceToNat, *]))
    | (with_reducible refine branch_f ?_; (try simp (maxSteps := 1000000) (disch := omega) only [push_cast, go_sem, Nat.reduceEqDiff, ↓reduceIte, reduceCtorEq, Nat.reduceAdd, Nat.reduceSub, Nat.reduceLeDiff, Nat.reduceLT, Int.reduceLT, Int.reduceLE, Int.reduceEq, Int.reduceNeg, Nat.reduceMul, Int.reduceAdd, Int.reduceToNat, *]))
    | (with_reducible refine cond_split ?_ ?_)
    | (with_reducible refine guard_split ?_ ?_)
    | ((with_reducible refine drw_open 0 ?_); simp (maxSteps := 1000000) (disch := omega) only [push_cast, go_sem, Nat.reduceEqDiff, ↓reduceIte, reduceCtorEq, Nat.reduceAdd, Nat.reduceSub, Nat.reduceLeDiff, Nat.reduceLT, Int.reduceLT, Int.reduceLE, Int.reduceEq, Int.reduceNeg, Nat.reduceMul, Int.reduceAdd, Int.reduceToNat, *]; (with_reducible refine drw_id ?_))
    | ((with_reducible refine drw_open 1 ?_); simp (maxSteps := 1000000) (disch := omega) only [push_cast, go_sem, Nat.reduceEqDiff, ↓reduceIte, reduceCtorEq, Nat.reduceAdd, Nat.reduceSub, Nat.reduceLeDiff, Nat.reduceLT, Int.reduceLT, Int.reduceLE, Int.reduceEq, Int.reduceNeg, Nat.reduceMul, Int.reduceAdd, Int.reduceToNat, *]; (with_reducible refine drw_id ?_))
    | ((with_reducible refine drw_open 2 ?_); simp (maxSteps := 1000000) (disch := omega) only [push_cast, go_sem, Nat.reduceEqDiff, ↓reduceIte, reduceCtorEq, Nat.reduceAdd, Nat.reduceSub, Nat.reduceLeDiff, Nat.reduceLT, Int.reduceLT, Int.reduceLE, Int.reduceEq, Int.reduceNeg, Nat.reduceMul, Int.reduceAdd, Int.reduceToNat, *]; (with_reducible refine drw_id ?_))
    | ((with_reducible refine drw_intro ?_ ?_); (focus decide +kernel); (try simp (maxSteps := 1000000) (disch := omega) only [push_cast, go_sem, Nat.reduceEqDiff, ↓reduceIte, reduceCtorEq, Nat.reduceAdd, Nat.reduceSub, Nat.reduceLeDiff, Nat.reduceLT, Int.reduceLT, Int.reduceLE, Int.reduceEq, Int.reduceNeg, Nat.reduceMul, Int.reduceAdd, Int.reduceToNat, *]))
    | (with_reducible refine still_split ?_ ?_)
    | ((with_reducible refine call_by2 [] (risef_is h1) (by first | (refine ⟨?_, ?_, ?_, ?_⟩ <;> ((try simp (maxSteps := 1000000) (disch := omega) only [push_cast, go_sem, Nat.reduceEqDiff, ↓reduceIte, reduceCtorEq, Nat.reduceAdd, Nat.reduceSub, Nat.reduceLeDiff, Nat.reduceLT, Int.reduceLT, Int.reduceLE, Int.reduceEq, Int.reduceNeg, Nat.reduceMul, Int.reduceAdd, Int.reduceToNat, *]); (try rfl); (try omega); done)) | fail) ?_) <;> (try simp (maxSteps := 1000000) (disch := omega) only [push_cast, go_sem, Nat.reduceEqDiff, ↓reduceIte, reduceCtorEq, Nat.reduceAdd, Nat.reduceSub, Nat.reduceLeDiff, Nat.reduceLT, Int.reduceLT, Int.reduceLE, Int.reduceEq, Int.reduceNeg, Nat.reduceMul, Int.reduceAdd, Int.reduceToNat, *]))
    | omega)
/-- The keys from one on, below another one. -/
def rangeT (l : List RecA) (a b : List UInt8) (most : Int) : List RecA := ((l.drop (lb l a)).takeWhile fun r => decide (b = []) || Op.bytesLess r.key b).take most.toNat
def RInv (l : List RecA) (a b : List UInt8) (most : Int) (acc : List RecA) : Prop := acc.length ≤ l.length - lb l a ∧ acc = (l.drop (lb l a)).take acc.length ∧ acc.length ≤ most.toNat ∧ ∀ r ∈ acc, (decide (b = []) || Op.bytesLess r.key b) = true
theorem range_end {l acc : List RecA} {a b : List UInt8} {most : Int} (h : RInv l a b most acc) (he : acc.length = l.length - lb l a ∨ (∃ h : lb l a + acc.length < l.length, (decide (b = []) || Op.bytesLess l[lb l a + acc.length].key b) = false) ∨ most ≤ acc.length) :
    rangeT l a b most = acc := by
  unfold rangeT
  obtain ⟨h1, h2, h3, h4⟩ := h
  obtain ⟨m, hm⟩ : ∃ m, m = l.drop (lb l a) := ⟨_, rfl⟩
  have hml : m.length = l.length - lb l a := by rw [hm]; simp
  rw [← hm] at h2 ⊢
  have e : m = acc ++ m.drop acc.length := by conv => lhs; rw [← List.take_append_drop acc.length m, ← h2]
  rw [e, List.takeWhile_append_of_pos h4]
  rcases he with he | ⟨hlt, he⟩ | he
  · rw [List.drop_eq_nil_of_le (by omega)]
    simp only [List.takeWhile_nil, List.append_nil]
    exact List.take_of_length_le h3
  · have : m.drop acc.length = l[lb l a + acc.length] :: m.drop (acc.length + 1) := by
      rw [List.drop_eq_getElem_cons (by omega)]
      congr 1
      simp [hm]
    rw [this, List.takeWhile_cons, he]
    simp only [Bool.false_eq_true, if_false, List.append_nil]
    exact List.take_of_length_le h3
  · rw [List.take_append_of_le_length (by omega)]
    exact List.take_of_length_le h3
theorem range_next {l acc : List RecA} {a b : List UInt8} {most : Int} (h : RInv l a b most acc) (hlt : lb l a + acc.length < l.length) (hb : (decide (b = []) || Op.bytesLess l[lb l a + acc.length].key b) = true) (hm : ¬ most ≤ acc.length) : RInv l a b most (acc ++ [l[lb l a + acc.length]]) := by
  obtain ⟨h1, h2, h3, h4⟩ := h
  refine ⟨by simp; omega, ?_, by simp; omega, fun r hr => ?_⟩
  · rw [List.length_append, List.length_singleton, take_succ' (by simp; omega), ← h2]
    simp
  · rcases List.mem_append.1 hr with hr | hr
    · exact h4 r hr
    · obtain rfl := List.mem_singleton.1 hr; exact hb
theorem range_spec (nx : Int) (l : List RecA) (a b : List UInt8) (most : Int) (hs : SortedK l) (hl : l.length ≤ 10000) : Spec Try.prog 28 [.optr (.agg [.int .i64 nx, .olst 5 (l.map encA)]) 0, .str (ofL a), .str (ofL b), .int .i64 most] 
   (.olst 5 ((rangeT l a b most).map encA)) [.optr (.agg [.int .i64 nx, .olst 5 (l.map encA)]) 0, .str (ofL a), .str (ofL b), .int .i64 most] := by
  by_cases hb0 : b = []
  · subst hb0
    refine spec_run (P := Try.prog) (f := 28) (fn := Try.f28) (by kernel_rfl) (by kernel_rfl) rfl (by simp [Try.f28]) ?_; simp (maxSteps := 1000000) (disch := omega) only [push_cast, go_sem, Nat.reduceEqDiff, ↓reduceIte, reduceCtorEq, Nat.reduceAdd, Nat.reduceSub, Nat.reduceLeDiff, Nat.reduceLT, Int.reduceLT, Int.reduceLE, Int.reduceEq, Int.reduceNeg, Nat.reduceMul, Int.reduceAdd, Int.reduceToNat, Try.f28, *]
    have hle := lb_le (l := l) (k := a)
    repeat' (first
    | with_reducible refine And.intro ?_ ?_
    | (with_reducible intro hx; (try simp only [false_dec, true_dec, Int.ofNat_inj, gt_iff_lt, ge_iff_le, decide_eq_true_eq, decide_eq_false_iff_not, Bool.not_eq_true', Bool.not_eq_false', Bool.and_eq_true, Bool.or_eq_false_iff, ne_eq, Classical.not_not] at hx); (first | (exfalso; omega) | (try simp (maxSteps := 1000000) (disch := omega) only [push_cast, go_sem, Nat.reduceEqDiff, ↓reduceIte, reduceCtorEq, Nat.reduceAdd, Nat.reduceSub, Nat.reduceLeDiff, Nat.reduceLT, Int.reduceLT, Int.reduceLE, Int.reduceEq, Int.reduceNeg, Nat.reduceMul, Int.reduceAdd, Int.reduceToNat, *])))
    | (with_reducible refine branch_t ?_; (try simp (maxSteps := 1000000) (disch := omega) only [push_cast, go_sem, Nat.reduceEqDiff, ↓reduceIte, reduceCtorEq, Nat.reduceAdd, Nat.reduceSub, Nat.reduceLeDiff, Nat.reduceLT, Int.reduceLT, Int.reduceLE, Int.reduceEq, Int.reduceNeg, Nat.reduceMul, Int.reduceAdd, Int.reduceToNat, *]))
    | (with_reducible refine branch_f ?_; (try simp (maxSteps := 1000000) (disch := omega) only [push_cast, go_sem, Nat.reduceEqDiff, ↓reduceIte, reduceCtorEq, Nat.reduceAdd, Nat.reduceSub, Nat.reduceLeDiff, Nat.reduceLT, Int.reduceLT, Int.reduceLE, Int.reduceEq, Int.reduceNeg, Nat.reduceMul, Int.reduceAdd, Int.reduceToNat, *]))
    | (with_reducible refine cond_split ?_ ?_)
    | (with_reducible refine guard_split ?_ ?_)
    | ((with_reducible refine drw_open 0 ?_); simp (maxSteps := 1000000) (disch := omega) only [push_cast, go_sem, Nat.reduceEqDiff, ↓reduceIte, reduceCtorEq, Nat.reduceAdd, Nat.reduceSub, Nat.reduceLeDiff, Nat.reduceLT, Int.reduceLT, Int.reduceLE, Int.reduceEq, Int.reduceNeg, Nat.reduceMul, Int.reduceAdd, Int.reduceToNat, *]; (with_reducible refine drw_id ?_))
    | ((with_reducible refine drw_open 1 ?_); simp (maxSteps := 1000000) (disch := omega) only [push_cast, go_sem, Nat.reduceEqDiff, ↓reduceIte, reduceCtorEq, Nat.reduceAdd, Nat.reduceSub, Nat.reduceLeDiff, Nat.reduceLT, Int.reduceLT, Int.reduceLE, Int.reduceEq, Int.reduceNeg, Nat.reduceMul, Int.reduceAdd, Int.reduceToNat, *]; (with_reducible refine drw_id ?_))
    | ((with_reducible refine drw_open 2 ?_); simp (maxSteps := 1000000) (disch := omega) only [push_cast, go_sem, Nat.reduceEqDiff, ↓reduceIte, reduceCtorEq, Nat.reduceAdd, Nat.reduceSub, Nat.reduceLeDiff, Nat.reduceLT, Int.reduceLT, Int.reduceLE, Int.reduceEq, Int.reduceNeg, Nat.reduceMul, Int.reduceAdd, Int.reduceToNat, *]; (with_reducible refine drw_id ?_))
    | ((with_reducible refine drw_plan pl28_0 ?_ ?_ ?_); (focus decide +kernel); (focus rfl); (try simp (maxSteps := 1000000) (disch := omega) only [push_cast, go_sem, Nat.reduceEqDiff, ↓reduceIte, reduceCtorEq, Nat.reduceAdd, Nat.reduceSub, Nat.reduceLeDiff, Nat.reduceLT, Int.reduceLT, Int.reduceLE, Int.reduceEq, Int.reduceNeg, Nat.reduceMul, Int.reduceAdd, Int.reduceToNat, *]); (fail_if_success (with_reducible change False)))
    | ((with_reducible refine drw_intro ?_ ?_); (focus decide +kernel); (try simp (maxSteps := 1000000) (disch := omega) only [push_cast, go_sem, Nat.reduceEqDiff, ↓reduceIte, reduceCtorEq, Nat.reduceAdd, Nat.reduceSub, Nat.reduceLeDiff, Nat.reduceLT, Int.reduceLT, Int.reduceLE, Int.reduceEq, Int.reduceNeg, Nat.reduceMul, Int.reduceAdd, Int.reduceToNat, *]))
    | (with_reducible refine still_split ?_ ?_)
    | ((with_reducible refine call_by2 [] (fromL_spec nx l a hs (by omega)) (by first | (refine ⟨?_, ?_, ?_, ?_⟩ <;> ((try simp (maxSteps := 1000000) (disch := omega) only [push_cast, go_sem, Nat.reduceEqDiff, ↓reduceIte, reduceCtorEq, Nat.reduceAdd, Nat.reduceSub, Nat.reduceLeDiff, Nat.reduceLT, Int.reduceLT, Int.reduceLE, Int.reduceEq, Int.reduceNeg, Nat.reduceMul, Int.reduceAdd, Int.reduceToNat, *]); (try rfl); (try omega); done)) | fail) ?_) <;> (try simp (maxSteps := 1000000) (disch := omega) only [push_cast, go_sem, Nat.reduceEqDiff, ↓reduceIte, reduceCtorEq, Nat.reduceAdd, Nat.reduceSub, Nat.reduceLeDiff, Nat.reduceLT, Int.reduceLT, Int.reduceLE, Int.reduceEq, Int.reduceNeg, Nat.reduceMul, Int.reduceAdd, Int.reduceToNat, *]))
    | omega)
    refine loop_by (σ := List RecA) (fun acc N => ([(23, .int .i64 acc.length), (22, .int .i64 (l.length - lb l a : Nat)), (21, .row 3 l.length (lb l a) (l.length - lb l a)), (9, .row 2 acc.length 0 acc.length), (0, .loc 0 0), (1, .str (ofL a)), (2, .str (ofL [])), (3, .int .i64 most)],
        [(0, .obj (.agg [.int .i64 nx, .row 3 l.length 0 l.length])), (3, .row 5 (l.map encA) false), (2, .row 5 (acc.map encA) false)]))
      (RInv l a [] most) (fun acc => (l.length - lb l a) - acc.length) [] _ (by simp [RInv]) (by simp (maxSteps := 1000000) (disch := omega) only [push_cast, go_sem, Nat.reduceEqDiff, ↓reduceIte, reduceCtorEq, Nat.reduceAdd, Nat.reduceSub, Nat.reduceLeDiff, Nat.reduceLT, Int.reduceLT, Int.reduceLE, Int.reduceEq, Int.reduceNeg, Nat.reduceMul, Int.reduceAdd, Int.reduceToNat, *]) (by simp (maxSteps := 1000000) (disch := omega) only [push_cast, go_sem, Nat.reduceEqDiff, ↓reduceIte, reduceCtorEq, Nat.reduceAdd, Nat.reduceSub, Nat.reduceLeDiff, Nat.reduceLT, Int.reduceLT, Int.reduceLE, Int.reduceEq, Int.reduceNeg, Nat.reduceMul, Int.reduceAdd, Int.reduceToNat, *] <;> simp) (Nat.le_refl _) ?_
    rintro acc N hN hI
    have hi := hI.1
    simp (maxSteps := 1000000) (disch := omega) only [push_cast, go_sem, Nat.reduceEqDiff, ↓reduceIte, reduceCtorEq, Nat.reduceAdd, Nat.reduceSub, Nat.reduceLeDiff, Nat.reduceLT, Int.reduceLT, Int.reduceLE, Int.reduceEq, Int.reduceNeg, Nat.reduceMul, Int.reduceAdd, Int.reduceToNat, *]
    repeat' (first
    | with_reducible refine And.intro ?_ ?_
    | (with_reducible intro hx; (try simp only [false_dec, true_dec, Int.ofNat_inj, gt_iff_lt, ge_iff_le, decide_eq_true_eq, decide_eq_false_iff_not, Bool.not_eq_true', Bool.not_eq_false', Bool.and_eq_true, Bool.or_eq_false_iff, ne_eq, Classical.not_not] at hx); (first | (exfalso; omega) | (try simp (maxSteps := 1000000) (disch := omega) only [push_cast, go_sem, Nat.reduceEqDiff, ↓reduceIte, reduceCtorEq, Nat.reduceAdd, Nat.reduceSub, Nat.reduceLeDiff, Nat.reduceLT, Int.reduceLT, Int.reduceLE, Int.reduceEq, Int.reduceNeg, Nat.reduceMul, Int.reduceAdd, Int.reduceToNat, *])))
    | (with_reducible refine branch_t ?_; (try simp (maxSteps := 1000000) (disch := omega) only [push_cast, go_sem, Nat.reduceEqDiff, ↓reduceIte, reduceCtorEq, Nat.reduceAdd, Nat.reduceSub, Nat.reduceLeDiff, Nat.reduceLT, Int.reduceLT, Int.reduceLE, Int.reduceEq, Int.reduceNeg, Nat.reduceMul, Int.reduceAdd, Int.reduceToNat, *]))
    | (with_reducible refine branch_f ?_; (try simp (maxSteps := 1000000) (disch := omega) only [push_cast, go_sem, Nat.reduceEqDiff, ↓reduceIte, reduceCtorEq, Nat.reduceAdd, Nat.reduceSub, Nat.reduceLeDiff, Nat.reduceLT, Int.reduceLT, Int.reduceLE, Int.reduceEq, Int.reduceNeg, Nat.reduceMul, Int.reduceAdd, Int.reduceToNat, *]))
    | (with_reducible refine cond_split ?_ ?_)
    | (with_reducible refine guard_split ?_ ?_)
    | ((with_reducible refine drw_open 0 ?_); simp (maxSteps := 1000000) (disch := omega) only [push_cast, go_sem, Nat.reduceEqDiff, ↓reduceIte, reduceCtorEq, Nat.reduceAdd, Nat.reduceSub, Nat.reduceLeDiff, Nat.reduceLT, Int.reduceLT, Int.reduceLE, Int.reduceEq, Int.reduceNeg, Nat.reduceMul, Int.reduceAdd, Int.reduceToNat, *]; (with_reducible refine drw_id ?_))
    | ((with_reducible refine drw_open 1 ?_); simp (maxSteps := 1000000) (disch := omega) only [push_cast, go_sem, Nat.reduceEqDiff, ↓reduceIte, reduceCtorEq, Nat.reduceAdd, Nat.reduceSub, Nat.reduceLeDiff, Nat.reduceLT, Int.reduceLT, Int.reduceLE, Int.reduceEq, Int.reduceNeg, Nat.reduceMul, Int.reduceAdd, Int.reduceToNat, *]; (with_reducible refine drw_id ?_))
    | ((with_reducible refine drw_open 2 ?_); simp (maxSteps := 1000000) (disch := omega) only [push_cast, go_sem, Nat.reduceEqDiff, ↓reduceIte, reduceCtorEq, Nat.reduceAdd, Nat.reduceSub, Nat.reduceLeDiff, Nat.reduceLT, Int.reduceLT, Int.reduceLE, Int.reduceEq, Int.reduceNeg, Nat.reduceMul, Int.reduceAdd, Int.reduceToNat, *]; (with_reducible refine drw_id ?_))
    | ((with_reducible refine drw_plan pl28_0 ?_ ?_ ?_); (focus decide +kernel); (focus rfl); (try simp (maxSteps := 1000000) (disch := omega) only [push_cast, go_sem, Nat.reduceEqDiff, ↓reduceIte, reduceCtorEq, Nat.reduceAdd, Nat.reduceSub, Nat.reduceLeDiff, Nat.reduceLT, Int.reduceLT, Int.reduceLE, Int.reduceEq, Int.reduceNeg, Nat.reduceMul, Int.reduceAdd, Int.reduceToNat, *]); (fail_if_success (with_reducible change False)))
    | ((with_reducible refine drw_intro ?_ ?_); (focus decide +kernel); (try simp (maxSteps := 1000000) (disch := omega) only [push_cast, go_sem, Nat.reduceEqDiff, ↓reduceIte, reduceCtorEq, Nat.reduceAdd, Nat.reduceSub, Nat.reduceLeDiff, Nat.reduceLT, Int.reduceLT, Int.reduceLE, Int.reduceEq, Int.reduceNeg, Nat.reduceMul, Int.reduceAdd, Int.reduceToNat, *]))
    | (with_reducible refine still_split ?_ ?_)
    | omega)
    all_goals first
      | (rw [range_end hI (.inl (by omega))])
      | (rw [range_end hI (.inr (.inr (by assumption)))])
      | (rw [range_end hI (.inr (.inl ⟨by omega, by simp [*]⟩))])
      | (refine loop_end (acc ++ [l[lb l a + acc.length]]) _ (by omega) (range_next hI (by omega) (by simp [*]) (by assumption)) (by simp; omega) (by simp (maxSteps := 1000000) (disch := omega) only [push_cast, go_sem, Nat.reduceEqDiff, ↓reduceIte, reduceCtorEq, Nat.reduceAdd, Nat.reduceSub, Nat.reduceLeDiff, Nat.reduceLT, Int.reduceLT, Int.reduceLE, Int.reduceEq, Int.reduceNeg, Nat.reduceMul, Int.reduceAdd, Int.reduceToNat, *] <;> simp) (by simp (maxSteps := 1000000) (disch := omega) only [push_cast, go_sem, Nat.reduceEqDiff, ↓reduceIte, reduceCtorEq, Nat.reduceAdd, Nat.reduceSub, Nat.reduceLeDiff, Nat.reduceLT, Int.reduceLT, Int.reduceLE, Int.reduceEq, Int.reduceNeg, Nat.reduceMul, Int.reduceAdd, Int.reduceToNat, *] <;> simp <;> rfl) (Nat.le_refl _))
  · skip
    refine spec_run (P := Try.prog) (f := 28) (fn := Try.f28) (by kernel_rfl) (by kernel_rfl) rfl (by simp [Try.f28]) ?_; simp (maxSteps := 1000000) (disch := omega) only [push_cast, go_sem, Nat.reduceEqDiff, ↓reduceIte, reduceCtorEq, Nat.reduceAdd, Nat.reduceSub, Nat.reduceLeDiff, Nat.reduceLT, Int.reduceLT, Int.reduceLE, Int.reduceEq, Int.reduceNeg, Nat.reduceMul, Int.reduceAdd, Int.reduceToNat, Try.f28, *]
    have hle := lb_le (l := l) (k := a)
    repeat' (first
    | with_reducible refine And.intro ?_ ?_
    | (with_reducible intro hx; (try simp only [false_dec, true_dec, Int.ofNat_inj, gt_iff_lt, ge_iff_le, decide_eq_true_eq, decide_eq_false_iff_not, Bool.not_eq_true', Bool.not_eq_false', Bool.and_eq_true, Bool.or_eq_false_iff, ne_eq, Classical.not_not] at hx); (first | (exfalso; omega) | (try simp (maxSteps := 1000000) (disch := omega) only [push_cast, go_sem, Nat.reduceEqDiff, ↓reduceIte, reduceCtorEq, Nat.reduceAdd, Nat.reduceSub, Nat.reduceLeDiff, Nat.reduceLT, Int.reduceLT, Int.reduceLE, Int.reduceEq, Int.reduceNeg, Nat.reduceMul, Int.reduceAdd, Int.reduceToNat, *])))
    | (with_reducible refine branch_t ?_; (try simp (maxSteps := 1000000) (disch := omega) only [push_cast, go_sem, Nat.reduceEqDiff, ↓reduceIte, reduceCtorEq, Nat.reduceAdd, Nat.reduceSub, Nat.reduceLeDiff, Nat.reduceLT, Int.reduceLT, Int.reduceLE, Int.reduceEq, Int.reduceNeg, Nat.reduceMul, Int.reduceAdd, Int.reduceToNat, *]))
    | (with_reducible refine branch_f ?_; (try simp (maxSteps := 1000000) (disch := omega) only [push_cast, go_sem, Nat.reduceEqDiff, ↓reduceIte, reduceCtorEq, Nat.reduceAdd, Nat.reduceSub, Nat.reduceLeDiff, Nat.reduceLT, Int.reduceLT, Int.reduceLE, Int.reduceEq, Int.reduceNeg, Nat.reduceMul, Int.reduceAdd, Int.reduceToNat, *]))
    | (with_reducible refine cond_split ?_ ?_)
    | (with_reducible refine guard_split ?_ ?_)
    | ((with_reducible refine drw_open 0 ?_); simp (maxSteps := 1000000) (disch := omega) only [push_cast, go_sem, Nat.reduceEqDiff, ↓reduceIte, reduceCtorEq, Nat.reduceAdd, Nat.reduceSub, Nat.reduceLeDiff, Nat.reduceLT, Int.reduceLT, Int.reduceLE, Int.reduceEq, Int.reduceNeg, Nat.reduceMul, Int.reduceAdd, Int.reduceToNat, *]; (with_reducible refine drw_id ?_))
    | ((with_reducible refine drw_open 1 ?_); simp (maxSteps := 1000000) (disch := omega) only [push_cast, go_sem, Nat.reduceEqDiff, ↓reduceIte, reduceCtorEq, Nat.reduceAdd, Nat.reduceSub, Nat.reduceLeDiff, Nat.reduceLT, Int.reduceLT, Int.reduceLE, Int.reduceEq, Int.reduceNeg, Nat.reduceMul, Int.reduceAdd, Int.reduceToNat, *]; (with_reducible refine drw_id ?_))
    | ((with_reducible refine drw_open 2 ?_); simp (maxSteps := 1000000) (disch := omega) only [push_cast, go_sem, Nat.reduceEqDiff, ↓reduceIte, reduceCtorEq, Nat.reduceAdd, Nat.reduceSub, Nat.reduceLeDiff, Nat.reduceLT, Int.reduceLT, Int.reduceLE, Int.reduceEq, Int.reduceNeg, Nat.reduceMul, Int.reduceAdd, Int.reduceToNat, *]; (with_reducible refine drw_id ?_))
    | ((with_reducible refine drw_plan pl28_0 ?_ ?_ ?_); (focus decide +kernel); (focus rfl); (try simp (maxSteps := 1000000) (disch := omega) only [push_cast, go_sem, Nat.reduceEqDiff, ↓reduceIte, reduceCtorEq, Nat.reduceAdd, Nat.reduceSub, Nat.reduceLeDiff, Nat.reduceLT, Int.reduceLT, Int.reduceLE, Int.reduceEq, Int.reduceNeg, Nat.reduceMul, Int.reduceAdd, Int.reduceToNat, *]); (fail_if_success (with_reducible change False)))
    | ((with_reducible refine drw_intro ?_ ?_); (focus decide +kernel); (try simp (maxSteps := 1000000) (disch := omega) only [push_cast, go_sem, Nat.reduceEqDiff, ↓reduceIte, reduceCtorEq, Nat.reduceAdd, Nat.reduceSub, Nat.reduceLeDiff, Nat.reduceLT, Int.reduceLT, Int.reduceLE, Int.reduceEq, Int.reduceNeg, Nat.reduceMul, Int.reduceAdd, Int.reduceToNat, *]))
    | (with_reducible refine still_split ?_ ?_)
    | ((with_reducible refine call_by2 [] (fromL_spec nx l a hs (by omega)) (by first | (refine ⟨?_, ?_, ?_, ?_⟩ <;> ((try simp (maxSteps := 1000000) (disch := omega) only [push_cast, go_sem, Nat.reduceEqDiff, ↓reduceIte, reduceCtorEq, Nat.reduceAdd, Nat.reduceSub, Nat.reduceLeDiff, Nat.reduceLT, Int.reduceLT, Int.reduceLE, Int.reduceEq, Int.reduceNeg, Nat.reduceMul, Int.reduceAdd, Int.reduceToNat, *]); (try rfl); (try omega); done)) | fail) ?_) <;> (try simp (maxSteps := 1000000) (disch := omega) only [push_cast, go_sem, Nat.reduceEqDiff, ↓reduceIte, reduceCtorEq, Nat.reduceAdd, Nat.reduceSub, Nat.reduceLeDiff, Nat.reduceLT, Int.reduceLT, Int.reduceLE, Int.reduceEq, Int.reduceNeg, Nat.reduceMul, Int.reduceAdd, Int.reduceToNat, *]))
    | omega)
    refine loop_by (σ := List RecA) (fun acc N => ([(23, .int .i64 acc.length), (22, .int .i64 (l.length - lb l a : Nat)), (21, .row 3 l.length (lb l a) (l.length - lb l a)), (9, .row 2 acc.length 0 acc.length), (0, .loc 0 0), (1, .str (ofL a)), (2, .str (ofL b)), (3, .int .i64 most)],
        [(0, .obj (.agg [.int .i64 nx, .row 3 l.length 0 l.length])), (3, .row 5 (l.map encA) false), (2, .row 5 (acc.map encA) false)]))
      (RInv l a b most) (fun acc => (l.length - lb l a) - acc.length) [] _ (by simp [RInv]) (by simp (maxSteps := 1000000) (disch := omega) only [push_cast, go_sem, Nat.reduceEqDiff, ↓reduceIte, reduceCtorEq, Nat.reduceAdd, Nat.reduceSub, Nat.reduceLeDiff, Nat.reduceLT, Int.reduceLT, Int.reduceLE, Int.reduceEq, Int.reduceNeg, Nat.reduceMul, Int.reduceAdd, Int.reduceToNat, *]) (by simp (maxSteps := 1000000) (disch := omega) only [push_cast, go_sem, Nat.reduceEqDiff, ↓reduceIte, reduceCtorEq, Nat.reduceAdd, Nat.reduceSub, Nat.reduceLeDiff, Nat.reduceLT, Int.reduceLT, Int.reduceLE, Int.reduceEq, Int.reduceNeg, Nat.reduceMul, Int.reduceAdd, Int.reduceToNat, *] <;> simp) (Nat.le_refl _) ?_
    rintro acc N hN hI
    have hi := hI.1
    simp (maxSteps := 1000000) (disch := omega) only [push_cast, go_sem, Nat.reduceEqDiff, ↓reduceIte, reduceCtorEq, Nat.reduceAdd, Nat.reduceSub, Nat.reduceLeDiff, Nat.reduceLT, Int.reduceLT, Int.reduceLE, Int.reduceEq, Int.reduceNeg, Nat.reduceMul, Int.reduceAdd, Int.reduceToNat, *]
    repeat' (first
    | with_reducible refine And.intro ?_ ?_
    | (with_reducible intro hx; (try simp only [false_dec, true_dec, Int.ofNat_inj, gt_iff_lt, ge_iff_le, decide_eq_true_eq, decide_eq_false_iff_not, Bool.not_eq_true', Bool.not_eq_false', Bool.and_eq_true, Bool.or_eq_false_iff, ne_eq, Classical.not_not] at hx); (first | (exfalso; omega) | (try simp (maxSteps := 1000000) (disch := omega) only [push_cast, go_sem, Nat.reduceEqDiff, ↓reduceIte, reduceCtorEq, Nat.reduceAdd, Nat.reduceSub, Nat.reduceLeDiff, Nat.reduceLT, Int.reduceLT, Int.reduceLE, Int.reduceEq, Int.reduceNeg, Nat.reduceMul, Int.reduceAdd, Int.reduceToNat, *])))
    | (with_reducible refine branch_t ?_; (try simp (maxSteps := 1000000) (disch := omega) only [push_cast, go_sem, Nat.reduceEqDiff, ↓reduceIte, reduceCtorEq, Nat.reduceAdd, Nat.reduceSub, Nat.reduceLeDiff, Nat.reduceLT, Int.reduceLT, Int.reduceLE, Int.reduceEq, Int.reduceNeg, Nat.reduceMul, Int.reduceAdd, Int.reduceToNat, *]))
    | (with_reducible refine branch_f ?_; (try simp (maxSteps := 1000000) (disch := omega) only [push_cast, go_sem, Nat.reduceEqDiff, ↓reduceIte, reduceCtorEq, Nat.reduceAdd, Nat.reduceSub, Nat.reduceLeDiff, Nat.reduceLT, Int.reduceLT, Int.reduceLE, Int.reduceEq, Int.reduceNeg, Nat.reduceMul, Int.reduceAdd, Int.reduceToNat, *]))
    | (with_reducible refine cond_split ?_ ?_)
    | (with_reducible refine guard_split ?_ ?_)
    | ((with_reducible refine drw_open 0 ?_); simp (maxSteps := 1000000) (disch := omega) only [push_cast, go_sem, Nat.reduceEqDiff, ↓reduceIte, reduceCtorEq, Nat.reduceAdd, Nat.reduceSub, Nat.reduceLeDiff, Nat.reduceLT, Int.reduceLT, Int.reduceLE, Int.reduceEq, Int.reduceNeg, Nat.reduceMul, Int.reduceAdd, Int.reduceToNat, *]; (with_reducible refine drw_id ?_))
    | ((with_reducible refine drw_open 1 ?_); simp (maxSteps := 1000000) (disch := omega) only [push_cast, go_sem, Nat.reduceEqDiff, ↓reduceIte, reduceCtorEq, Nat.reduceAdd, Nat.reduceSub, Nat.reduceLeDiff, Nat.reduceLT, Int.reduceLT, Int.reduceLE, Int.reduceEq, Int.reduceNeg, Nat.reduceMul, Int.reduceAdd, Int.reduceToNat, *]; (with_reducible refine drw_id ?_))
    | ((with_reducible refine drw_open 2 ?_); simp (maxSteps := 1000000) (disch := omega) only [push_cast, go_sem, Nat.reduceEqDiff, ↓reduceIte, reduceCtorEq, Nat.reduceAdd, Nat.reduceSub, Nat.reduceLeDiff, Nat.reduceLT, Int.reduceLT, Int.reduceLE, Int.reduceEq, Int.reduceNeg, Nat.reduceMul, Int.reduceAdd, Int.reduceToNat, *]; (with_reducible refine drw_id ?_))
    | ((with_reducible refine drw_plan pl28_0 ?_ ?_ ?_); (focus decide +kernel); (focus rfl); (try simp (maxSteps := 1000000) (disch := omega) only [push_cast, go_sem, Nat.reduceEqDiff, ↓reduceIte, reduceCtorEq, Nat.reduceAdd, Nat.reduceSub, Nat.reduceLeDiff, Nat.reduceLT, Int.reduceLT, Int.reduceLE, Int.reduceEq, Int.reduceNeg, Nat.reduceMul, Int.reduceAdd, Int.reduceToNat, *]); (fail_if_success (with_reducible change False)))
    | ((with_reducible refine drw_intro ?_ ?_); (focus decide +kernel); (try simp (maxSteps := 1000000) (disch := omega) only [push_cast, go_sem, Nat.reduceEqDiff, ↓reduceIte, reduceCtorEq, Nat.reduceAdd, Nat.reduceSub, Nat.reduceLeDiff, Nat.reduceLT, Int.reduceLT, Int.reduceLE, Int.reduceEq, Int.reduceNeg, Nat.reduceMul, Int.reduceAdd, Int.reduceToNat, *]))
    | (with_reducible refine still_split ?_ ?_)
    | omega)
    all_goals first
      | (rw [range_end hI (.inl (by omega))])
      | (rw [range_end hI (.inr (.inr (by assumption)))])
      | (rw [range_end hI (.inr (.inl ⟨by omega, by simp [*]⟩))])
      | (refine loop_end (acc ++ [l[lb l a + acc.length]]) _ (by omega) (range_next hI (by omega) (by simp [*]) (by assumption)) (by simp; omega) (by simp (maxSteps := 1000000) (disch := omega) only [push_cast, go_sem, Nat.reduceEqDiff, ↓reduceIte, reduceCtorEq, Nat.reduceAdd, Nat.reduceSub, Nat.reduceLeDiff, Nat.reduceLT, Int.reduceLT, Int.reduceLE, Int.reduceEq, Int.reduceNeg, Nat.reduceMul, Int.reduceAdd, Int.reduceToNat, *] <;> simp) (by simp (maxSteps := 1000000) (disch := omega) only [push_cast, go_sem, Nat.reduceEqDiff, ↓reduceIte, reduceCtorEq, Nat.reduceAdd, Nat.reduceSub, Nat.reduceLeDiff, Nat.reduceLT, Int.reduceLT, Int.reduceLE, Int.reduceEq, Int.reduceNeg, Nat.reduceMul, Int.reduceAdd, Int.reduceToNat, *] <;> simp <;> rfl) (Nat.le_refl _))
end Go.Ev

set_option linter.unusedVariables false
set_option linter.unusedSimpArgs false
namespace Go.Ev
set_option maxRecDepth 100000
set_option maxHeartbeats 0
open Go.Proofs
/-- Chapter 9's records. -/
def ex9 : List RecA := [⟨0, [97], [49], false, 0⟩, ⟨1, [98], [50], false, 0⟩, ⟨2, [97], [], true, 5⟩, ⟨3, [98], [51], false, 0⟩]
theorem ex_spec : Spec Try.prog 36 [] (.olst 5 (ex9.map encA)) [] := by
  refine spec_run (P := Try.prog) (f := 36) (fn := Try.f36) (by kernel_rfl) (by kernel_rfl) rfl (by simp [Try.f36]) ?_; simp (maxSteps := 1000000) (disch := omega) only [push_cast, go_sem, Nat.reduceEqDiff, ↓reduceIte, reduceCtorEq, Nat.reduceAdd, Nat.reduceSub, Nat.reduceLeDiff, Nat.reduceLT, Int.reduceLT, Int.reduceLE, Int.reduceEq, Int.reduceNeg, Nat.reduceMul, Int.reduceAdd, Int.reduceToNat, Try.f36, *]
  repeat' (first
    | with_reducible refine And.intro ?_ ?_
    | (with_reducible intro hx; (try simp only [false_dec, true_dec, Int.ofNat_inj, gt_iff_lt, ge_iff_le, decide_eq_true_eq, decide_eq_false_iff_not, Bool.not_eq_true', Bool.not_eq_false', Bool.and_eq_true, Bool.or_eq_false_iff, ne_eq, Classical.not_not] at hx); (first | (exfalso; omega) | (try simp (maxSteps := 1000000) (disch := omega) only [push_cast, go_sem, Nat.reduceEqDiff, ↓reduceIte, reduceCtorEq, Nat.reduceAdd, Nat.reduceSub, Nat.reduceLeDiff, Nat.reduceLT, Int.reduceLT, Int.reduceLE, Int.reduceEq, Int.reduceNeg, Nat.reduceMul, Int.reduceAdd, Int.reduceToNat, *])))
    | (with_reducible refine branch_t ?_; (try simp (maxSteps := 1000000) (disch := omega) only [push_cast, go_sem, Nat.reduceEqDiff, ↓reduceIte, reduceCtorEq, Nat.reduceAdd, Nat.reduceSub, Nat.reduceLeDiff, Nat.reduceLT, Int.reduceLT, Int.reduceLE, Int.reduceEq, Int.reduceNeg, Nat.reduceMul, Int.reduceAdd, Int.reduceToNat, *]))
    | (with_reducible refine branch_f ?_; (try simp (maxSteps := 1000000) (disch := omega) only [push_cast, go_sem, Nat.reduceEqDiff, ↓reduceIte, reduceCtorEq, Nat.reduceAdd, Nat.reduceSub, Nat.reduceLeDiff, Nat.reduceLT, Int.reduceLT, Int.reduceLE, Int.reduceEq, Int.reduceNeg, Nat.reduceMul, Int.reduceAdd, Int.reduceToNat, *]))
    | (with_reducible refine cond_split ?_ ?_)
    | (with_reducible refine guard_split ?_ ?_)
    | ((with_reducible refine drw_open 0 ?_); simp (maxSteps := 1000000) (disch := omega) only [push_cast, go_sem, Nat.reduceEqDiff, ↓reduceIte, reduceCtorEq, Nat.reduceAdd, Nat.reduceSub, Nat.reduceLeDiff, Nat.reduceLT, Int.reduceLT, Int.reduceLE, Int.reduceEq, Int.reduceNeg, Nat.reduceMul, Int.reduceAdd, Int.reduceToNat, *]; (with_reducible refine drw_id ?_))
    | ((with_reducible refine drw_open 1 ?_); simp (maxSteps := 1000000) (disch := omega) only [push_cast, go_sem, Nat.reduceEqDiff, ↓reduceIte, reduceCtorEq, Nat.reduceAdd, Nat.reduceSub, Nat.reduceLeDiff, Nat.reduceLT, Int.reduceLT, Int.reduceLE, Int.reduceEq, Int.reduceNeg, Nat.reduceMul, Int.reduceAdd, Int.reduceToNat, *]; (with_reducible refine drw_id ?_))
    | ((with_reducible refine drw_open 2 ?_); simp (maxSteps := 1000000) (disch := omega) only [push_cast, go_sem, Nat.reduceEqDiff, ↓reduceIte, reduceCtorEq, Nat.reduceAdd, Nat.reduceSub, Nat.reduceLeDiff, Nat.reduceLT, Int.reduceLT, Int.reduceLE, Int.reduceEq, Int.reduceNeg, Nat.reduceMul, Int.reduceAdd, Int.reduceToNat, *]; (with_reducible refine drw_id ?_))
    | ((with_reducible refine drw_intro ?_ ?_); (focus decide +kernel); (try simp (maxSteps := 1000000) (disch := omega) only [push_cast, go_sem, Nat.reduceEqDiff, ↓reduceIte, reduceCtorEq, Nat.reduceAdd, Nat.reduceSub, Nat.reduceLeDiff, Nat.reduceLT, Int.reduceLT, Int.reduceLE, Int.reduceEq, Int.reduceNeg, Nat.reduceMul, Int.reduceAdd, Int.reduceToNat, *]))
    | (with_reducible refine still_split ?_ ?_)
    | omega)
  rfl
theorem get_is {nx : Int} {l : List RecA} {k : List UInt8} (hs : SortedK l) (hl : l.length ≤ 100000) {o : Int} {ke va : List UInt8} {g : Bool} {ti : Int} {b : Bool} (hg : getT l k = ⟨o, ke, va, g, ti⟩) (hb : hasK l k = b) : Spec Try.prog 27 [.optr (.agg [.int .i64 nx, .olst 5 (l.map encA)]) 0, .str (ofL k)]
    (.tup [.agg [.int .i64 o, .str (ofL ke), .str (ofL va), .bool g, .int .i64 ti], .bool b]) [.optr (.agg [.int .i64 nx, .olst 5 (l.map encA)]) 0, .str (ofL k)] := by
  have := get_spec nx l k hs hl
  rw [hg, hb] at this; exact this
def r9 : RecA := ⟨3, [98], [51], false, 0⟩
theorem awake9_spec : Spec Try.prog 15 [] (.bool true) [] := by
  have c1 := fun f => clean_spec f 9 ex9 (by decide)
  have c2 := fun f => clean_spec f 5 ex9 (by decide)
  have sp := fun f => spare_spec f 9 ex9 (by decide)
  have ap := fun fl => apply_ok (fl := fl) (nx := 0) (l := []) (q := ex9) List.Pairwise.nil (by decide) (by decide)
  rw [show cleanL 9 ex9 = [r9] by decide] at c1 sp
  rw [show cleanL 5 ex9 = [⟨2, [97], [], true, 5⟩, r9] by decide] at c2
  rw [show applyN 0 ex9 = 4 by decide, show applyL [] ex9 = [r9] by decide] at ap
  have hs : SortedK [r9] := by simp [SortedK]
  have g1 := get_is (nx := 4) (l := [r9]) (k := [98]) (o := 3) (ke := [98]) (va := [51]) (g := false) (ti := 0) (b := true) hs (by decide) (by decide) (by decide)
  have g2 := get_is (nx := 4) (l := [r9]) (k := [97]) (o := 0) (ke := []) (va := []) (g := false) (ti := 0) (b := false) hs (by decide) (by decide) (by decide)
  have nx := tnext_spec 4 [r9]
  refine spec_run (P := Try.prog) (f := 15) (fn := Try.f15) (by kernel_rfl) (by kernel_rfl) rfl (by simp [Try.f15]) ?_; simp (maxSteps := 1000000) (disch := omega) only [push_cast, go_sem, Nat.reduceEqDiff, ↓reduceIte, reduceCtorEq, Nat.reduceAdd, Nat.reduceSub, Nat.reduceLeDiff, Nat.reduceLT, Int.reduceLT, Int.reduceLE, Int.reduceEq, Int.reduceNeg, Nat.reduceMul, Int.reduceAdd, Int.reduceToNat, Try.f15, *]
  repeat' (first
    | with_reducible refine And.intro ?_ ?_
    | (with_reducible intro hx; (try simp only [false_dec, true_dec, Int.ofNat_inj, gt_iff_lt, ge_iff_le, decide_eq_true_eq, decide_eq_false_iff_not, Bool.not_eq_true', Bool.not_eq_false', Bool.and_eq_true, Bool.or_eq_false_iff, ne_eq, Classical.not_not] at hx); (first | (exfalso; omega) | (try simp (maxSteps := 1000000) (disch := omega) only [push_cast, go_sem, Nat.reduceEqDiff, ↓reduceIte, reduceCtorEq, Nat.reduceAdd, Nat.reduceSub, Nat.reduceLeDiff, Nat.reduceLT, Int.reduceLT, Int.reduceLE, Int.reduceEq, Int.reduceNeg, Nat.reduceMul, Int.reduceAdd, Int.reduceToNat, *])))
    | (with_reducible refine branch_t ?_; (try simp (maxSteps := 1000000) (disch := omega) only [push_cast, go_sem, Nat.reduceEqDiff, ↓reduceIte, reduceCtorEq, Nat.reduceAdd, Nat.reduceSub, Nat.reduceLeDiff, Nat.reduceLT, Int.reduceLT, Int.reduceLE, Int.reduceEq, Int.reduceNeg, Nat.reduceMul, Int.reduceAdd, Int.reduceToNat, *]))
    | (with_reducible refine branch_f ?_; (try simp (maxSteps := 1000000) (disch := omega) only [push_cast, go_sem, Nat.reduceEqDiff, ↓reduceIte, reduceCtorEq, Nat.reduceAdd, Nat.reduceSub, Nat.reduceLeDiff, Nat.reduceLT, Int.reduceLT, Int.reduceLE, Int.reduceEq, Int.reduceNeg, Nat.reduceMul, Int.reduceAdd, Int.reduceToNat, *]))
    | (with_reducible refine cond_split ?_ ?_)
    | (with_reducible refine guard_split ?_ ?_)
    | ((with_reducible refine drw_open 0 ?_); simp (maxSteps := 1000000) (disch := omega) only [push_cast, go_sem, Nat.reduceEqDiff, ↓reduceIte, reduceCtorEq, Nat.reduceAdd, Nat.reduceSub, Nat.reduceLeDiff, Nat.reduceLT, Int.reduceLT, Int.reduceLE, Int.reduceEq, Int.reduceNeg, Nat.reduceMul, Int.reduceAdd, Int.reduceToNat, *]; (with_reducible refine drw_id ?_))
    | ((with_reducible refine drw_open 1 ?_); simp (maxSteps := 1000000) (disch := omega) only [push_cast, go_sem, Nat.reduceEqDiff, ↓reduceIte, reduceCtorEq, Nat.reduceAdd, Nat.reduceSub, Nat.reduceLeDiff, Nat.reduceLT, Int.reduceLT, Int.reduceLE, Int.reduceEq, Int.reduceNeg, Nat.reduceMul, Int.reduceAdd, Int.reduceToNat, *]; (with_reducible refine drw_id ?_))
    | ((with_reducible refine drw_open 2 ?_); simp (maxSteps := 1000000) (disch := omega) only [push_cast, go_sem, Nat.reduceEqDiff, ↓reduceIte, reduceCtorEq, Nat.reduceAdd, Nat.reduceSub, Nat.reduceLeDiff, Nat.reduceLT, Int.reduceLT, Int.reduceLE, Int.reduceEq, Int.reduceNeg, Nat.reduceMul, Int.reduceAdd, Int.reduceToNat, *]; (with_reducible refine drw_id ?_))
    | ((with_reducible refine drw_intro ?_ ?_); (focus decide +kernel); (try simp (maxSteps := 1000000) (disch := omega) only [push_cast, go_sem, Nat.reduceEqDiff, ↓reduceIte, reduceCtorEq, Nat.reduceAdd, Nat.reduceSub, Nat.reduceLeDiff, Nat.reduceLT, Int.reduceLT, Int.reduceLE, Int.reduceEq, Int.reduceNeg, Nat.reduceMul, Int.reduceAdd, Int.reduceToNat, *]))
    | (with_reducible refine still_split ?_ ?_)
    | ((with_reducible refine call_by2 [] (ex_spec) (by first | (refine ⟨?_, ?_, ?_, ?_⟩ <;> ((try simp (maxSteps := 1000000) (disch := omega) only [push_cast, go_sem, Nat.reduceEqDiff, ↓reduceIte, reduceCtorEq, Nat.reduceAdd, Nat.reduceSub, Nat.reduceLeDiff, Nat.reduceLT, Int.reduceLT, Int.reduceLE, Int.reduceEq, Int.reduceNeg, Nat.reduceMul, Int.reduceAdd, Int.reduceToNat, *]); (try rfl); (try omega); done)) | fail) ?_) <;> (try simp (maxSteps := 1000000) (disch := omega) only [push_cast, go_sem, Nat.reduceEqDiff, ↓reduceIte, reduceCtorEq, Nat.reduceAdd, Nat.reduceSub, Nat.reduceLeDiff, Nat.reduceLT, Int.reduceLT, Int.reduceLE, Int.reduceEq, Int.reduceNeg, Nat.reduceMul, Int.reduceAdd, Int.reduceToNat, *]))
    | ((with_reducible refine call_by2 [] (c1 _) (by first | (refine ⟨?_, ?_, ?_, ?_⟩ <;> ((try simp (maxSteps := 1000000) (disch := omega) only [push_cast, go_sem, Nat.reduceEqDiff, ↓reduceIte, reduceCtorEq, Nat.reduceAdd, Nat.reduceSub, Nat.reduceLeDiff, Nat.reduceLT, Int.reduceLT, Int.reduceLE, Int.reduceEq, Int.reduceNeg, Nat.reduceMul, Int.reduceAdd, Int.reduceToNat, *]); (try rfl); (try omega); done)) | fail) ?_) <;> (try simp (maxSteps := 1000000) (disch := omega) only [push_cast, go_sem, Nat.reduceEqDiff, ↓reduceIte, reduceCtorEq, Nat.reduceAdd, Nat.reduceSub, Nat.reduceLeDiff, Nat.reduceLT, Int.reduceLT, Int.reduceLE, Int.reduceEq, Int.reduceNeg, Nat.reduceMul, Int.reduceAdd, Int.reduceToNat, *]))
    | ((with_reducible refine call_by2 [] (c2 _) (by first | (refine ⟨?_, ?_, ?_, ?_⟩ <;> ((try simp (maxSteps := 1000000) (disch := omega) only [push_cast, go_sem, Nat.reduceEqDiff, ↓reduceIte, reduceCtorEq, Nat.reduceAdd, Nat.reduceSub, Nat.reduceLeDiff, Nat.reduceLT, Int.reduceLT, Int.reduceLE, Int.reduceEq, Int.reduceNeg, Nat.reduceMul, Int.reduceAdd, Int.reduceToNat, *]); (try rfl); (try omega); done)) | fail) ?_) <;> (try simp (maxSteps := 1000000) (disch := omega) only [push_cast, go_sem, Nat.reduceEqDiff, ↓reduceIte, reduceCtorEq, Nat.reduceAdd, Nat.reduceSub, Nat.reduceLeDiff, Nat.reduceLT, Int.reduceLT, Int.reduceLE, Int.reduceEq, Int.reduceNeg, Nat.reduceMul, Int.reduceAdd, Int.reduceToNat, *]))
    | ((with_reducible refine call_by2 [] (sp _) (by first | (refine ⟨?_, ?_, ?_, ?_⟩ <;> ((try simp (maxSteps := 1000000) (disch := omega) only [push_cast, go_sem, Nat.reduceEqDiff, ↓reduceIte, reduceCtorEq, Nat.reduceAdd, Nat.reduceSub, Nat.reduceLeDiff, Nat.reduceLT, Int.reduceLT, Int.reduceLE, Int.reduceEq, Int.reduceNeg, Nat.reduceMul, Int.reduceAdd, Int.reduceToNat, *]); (try rfl); (try omega); done)) | fail) ?_) <;> (try simp (maxSteps := 1000000) (disch := omega) only [push_cast, go_sem, Nat.reduceEqDiff, ↓reduceIte, reduceCtorEq, Nat.reduceAdd, Nat.reduceSub, Nat.reduceLeDiff, Nat.reduceLT, Int.reduceLT, Int.reduceLE, Int.reduceEq, Int.reduceNeg, Nat.reduceMul, Int.reduceAdd, Int.reduceToNat, *]))
    | ((with_reducible refine call_by2 [] (new_spec) (by first | (refine ⟨?_, ?_, ?_, ?_⟩ <;> ((try simp (maxSteps := 1000000) (disch := omega) only [push_cast, go_sem, Nat.reduceEqDiff, ↓reduceIte, reduceCtorEq, Nat.reduceAdd, Nat.reduceSub, Nat.reduceLeDiff, Nat.reduceLT, Int.reduceLT, Int.reduceLE, Int.reduceEq, Int.reduceNeg, Nat.reduceMul, Int.reduceAdd, Int.reduceToNat, *]); (try rfl); (try omega); done)) | fail) ?_) <;> (try simp (maxSteps := 1000000) (disch := omega) only [push_cast, go_sem, Nat.reduceEqDiff, ↓reduceIte, reduceCtorEq, Nat.reduceAdd, Nat.reduceSub, Nat.reduceLeDiff, Nat.reduceLT, Int.reduceLT, Int.reduceLE, Int.reduceEq, Int.reduceNeg, Nat.reduceMul, Int.reduceAdd, Int.reduceToNat, *]))
    | ((with_reducible refine call_by2 [true] (ap _) (by first | (refine ⟨?_, ?_, ?_, ?_⟩ <;> ((try simp (maxSteps := 1000000) (disch := omega) only [push_cast, go_sem, Nat.reduceEqDiff, ↓reduceIte, reduceCtorEq, Nat.reduceAdd, Nat.reduceSub, Nat.reduceLeDiff, Nat.reduceLT, Int.reduceLT, Int.reduceLE, Int.reduceEq, Int.reduceNeg, Nat.reduceMul, Int.reduceAdd, Int.reduceToNat, *]); (try rfl); (try omega); done)) | fail) ?_) <;> (try simp (maxSteps := 1000000) (disch := omega) only [push_cast, go_sem, Nat.reduceEqDiff, ↓reduceIte, reduceCtorEq, Nat.reduceAdd, Nat.reduceSub, Nat.reduceLeDiff, Nat.reduceLT, Int.reduceLT, Int.reduceLE, Int.reduceEq, Int.reduceNeg, Nat.reduceMul, Int.reduceAdd, Int.reduceToNat, *]))
    | ((with_reducible refine call_by2 [true] (nx) (by first | (refine ⟨?_, ?_, ?_, ?_⟩ <;> ((try simp (maxSteps := 1000000) (disch := omega) only [push_cast, go_sem, Nat.reduceEqDiff, ↓reduceIte, reduceCtorEq, Nat.reduceAdd, Nat.reduceSub, Nat.reduceLeDiff, Nat.reduceLT, Int.reduceLT, Int.reduceLE, Int.reduceEq, Int.reduceNeg, Nat.reduceMul, Int.reduceAdd, Int.reduceToNat, *]); (try rfl); (try omega); done)) | fail) ?_) <;> (try simp (maxSteps := 1000000) (disch := omega) only [push_cast, go_sem, Nat.reduceEqDiff, ↓reduceIte, reduceCtorEq, Nat.reduceAdd, Nat.reduceSub, Nat.reduceLeDiff, Nat.reduceLT, Int.reduceLT, Int.reduceLE, Int.reduceEq, Int.reduceNeg, Nat.reduceMul, Int.reduceAdd, Int.reduceToNat, *]))
    | ((with_reducible refine call_by2 [true] (g1) (by first | (refine ⟨?_, ?_, ?_, ?_⟩ <;> ((try simp (maxSteps := 1000000) (disch := omega) only [push_cast, go_sem, Nat.reduceEqDiff, ↓reduceIte, reduceCtorEq, Nat.reduceAdd, Nat.reduceSub, Nat.reduceLeDiff, Nat.reduceLT, Int.reduceLT, Int.reduceLE, Int.reduceEq, Int.reduceNeg, Nat.reduceMul, Int.reduceAdd, Int.reduceToNat, *]); (try rfl); (try omega); done)) | fail) ?_) <;> (try simp (maxSteps := 1000000) (disch := omega) only [push_cast, go_sem, Nat.reduceEqDiff, ↓reduceIte, reduceCtorEq, Nat.reduceAdd, Nat.reduceSub, Nat.reduceLeDiff, Nat.reduceLT, Int.reduceLT, Int.reduceLE, Int.reduceEq, Int.reduceNeg, Nat.reduceMul, Int.reduceAdd, Int.reduceToNat, *]))
    | ((with_reducible refine call_by2 [true] (g2) (by first | (refine ⟨?_, ?_, ?_, ?_⟩ <;> ((try simp (maxSteps := 1000000) (disch := omega) only [push_cast, go_sem, Nat.reduceEqDiff, ↓reduceIte, reduceCtorEq, Nat.reduceAdd, Nat.reduceSub, Nat.reduceLeDiff, Nat.reduceLT, Int.reduceLT, Int.reduceLE, Int.reduceEq, Int.reduceNeg, Nat.reduceMul, Int.reduceAdd, Int.reduceToNat, *]); (try rfl); (try omega); done)) | fail) ?_) <;> (try simp (maxSteps := 1000000) (disch := omega) only [push_cast, go_sem, Nat.reduceEqDiff, ↓reduceIte, reduceCtorEq, Nat.reduceAdd, Nat.reduceSub, Nat.reduceLeDiff, Nat.reduceLT, Int.reduceLT, Int.reduceLE, Int.reduceEq, Int.reduceNeg, Nat.reduceMul, Int.reduceAdd, Int.reduceToNat, *]))
    | omega)
  all_goals exact absurd rfl hx
end Go.Ev

set_option linter.unusedVariables false
set_option linter.unusedSimpArgs false
namespace Go.Ev
set_option maxRecDepth 100000
set_option maxHeartbeats 0
open Go.Proofs
theorem fits_one {cs : List AV} (h : Fits [.int .i64, .bool, .str, .str, .bool, .int .i64] cs) : ∃ o : One, AV.agg cs = encO o := by
  cases h with
  | int _ n _ h => cases h with
    | bool b h => cases h with
      | str s _ h => cases h with
        | str s' _ h => cases h with
          | bool b' h => cases h with
            | int _ n' _ h => cases h; exact ⟨⟨n, b, s.data.toList, s'.data.toList, b', n'⟩, by rw [encO, ← ofL_of, ← ofL_of]⟩
theorem awake_spec : Spec Try.prog 15 [] (.bool true) [] := awake9_spec
theorem laidGo_len {a : Int} {l : List One} : (laidGo a l).length = l.length := by
  induction l generalizing a with
  | nil => rfl
  | cons o l ih => simp [laidGo, ih]
theorem laidF_len {f m : Int} {l : List One} (hm : m ≤ 1000) : (laidF f m l).length ≤ 1000 := by
  unfold laidF; rw [laidGo_len]; simp; omega
end Go.Ev

set_option linter.unusedVariables false
set_option linter.unusedSimpArgs false
namespace Go.Ev
/-! What a table holds of a key. -/
def fnd (l : List RecA) (k : List UInt8) : Option RecA := l.find? fun r => decide (r.key = k)
theorem fnd_cons {r : RecA} {l : List RecA} {k : List UInt8} : fnd (r :: l) k = if r.key = k then some r else fnd l k := by
  unfold fnd
  rw [List.find?_cons]
  by_cases h : r.key = k <;> simp [h]
theorem fnd_append {a b : List RecA} {k : List UInt8} : fnd (a ++ b) k = (fnd a k).or (fnd b k) := by
  unfold fnd; rw [List.find?_append]
theorem fnd_some {l : List RecA} {k : List UInt8} {r : RecA} (h : fnd l k = some r) : r ∈ l ∧ r.key = k := by
  unfold fnd at h
  exact ⟨List.mem_of_find?_eq_some h, by simpa using List.find?_some h⟩
theorem fnd_none {l : List RecA} {k : List UInt8} : fnd l k = none ↔ ∀ r ∈ l, r.key ≠ k := by
  unfold fnd; simp
theorem fnd_mem {l : List RecA} (hs : SortedK l) {r : RecA} (h : r ∈ l) : fnd l r.key = some r := by
  induction l with
  | nil => cases h
  | cons x l ih =>
    rw [fnd_cons]
    have hs' := List.pairwise_cons.1 hs
    rcases List.mem_cons.1 h with rfl | h
    · simp
    · have := hs'.1 r h
      rw [if_neg, ih hs'.2 h]
      intro e
      rw [e, bl_irrefl] at this; cases this
/-- Two tables that hold the same of each key are one. -/
theorem tab_ext : ∀ {l m : List RecA}, SortedK l → SortedK m → (∀ k, fnd l k = fnd m k) → l = m
  | [], [], _, _, _ => rfl
  | [], x :: m, _, _, h => by have := h x.key; rw [fnd_cons, if_pos rfl] at this; simp [fnd] at this
  | x :: l, [], _, _, h => by have := h x.key; rw [fnd_cons, if_pos rfl] at this; simp [fnd] at this
  | x :: l, y :: m, hl, hm, h => by
    have hl' := List.pairwise_cons.1 hl
    have hm' := List.pairwise_cons.1 hm
    have hxy : x = y := by
      have h1 := h x.key
      rw [fnd_cons, if_pos rfl] at h1
      have h2 := fnd_some h1.symm
      rcases List.mem_cons.1 h2.1 with e | e
      · exact e
      · have h3 := h y.key
        rw [fnd_cons (r := y), if_pos rfl] at h3
        have h4 := fnd_some h3
        rcases List.mem_cons.1 h4.1 with e' | e'
        · exact e'.symm
        · have a1 := hm'.1 x e
          have a2 := hl'.1 y e'
          rw [bl_asymm a1] at a2; cases a2
    subst hxy
    congr 1
    refine tab_ext hl'.2 hm'.2 fun k => ?_
    have h1 := h k
    rw [fnd_cons, fnd_cons] at h1
    by_cases hk : x.key = k
    · subst hk
      have e1 : fnd l x.key = none := fnd_none.2 fun r hr e => by have := hl'.1 r hr; rw [e, bl_irrefl] at this; cases this
      have e2 : fnd m x.key = none := fnd_none.2 fun r hr e => by have := hm'.1 r hr; rw [e, bl_irrefl] at this; cases this
      rw [e1, e2]
    · rw [if_neg hk, if_neg hk] at h1; exact h1
theorem hasK_fnd {l : List RecA} {k : List UInt8} : hasK l k = (fnd l k).isSome := by
  rw [Bool.eq_iff_iff]
  simp [hasK, fnd]
theorem fnd_tset {l : List RecA} {r : RecA} (hs : SortedK l) (k : List UInt8) : fnd (tset l r) k = if r.key = k then (if r.gone = true then none else some r) else fnd l k := by
  unfold tset
  by_cases hb : hasK l r.key = true
  · rw [if_pos hb]
    obtain ⟨hlt, hk⟩ := hasK_lb hs hb
    obtain ⟨p, hp⟩ : ∃ p, lb l r.key = p := ⟨_, rfl⟩
    have hlt' : p < l.length := hp ▸ hlt
    have hk' : l[p].key = r.key := by simpa only [hp] using hk
    rw [hp]
    have e : l = l.take p ++ l[p] :: l.drop (p + 1) := by simp
    have hs2 := hs
    rw [e] at hs2
    have hs3 := List.pairwise_append.1 hs2
    have hA : fnd (l.take p) r.key = none := fnd_none.2 fun x hx e => by
      have := hs3.2.2 x hx l[p] (List.mem_cons_self ..)
      rw [e, hk', bl_irrefl] at this; cases this
    have hB : fnd (l.drop (p + 1)) r.key = none := fnd_none.2 fun x hx e => by
      have := (List.pairwise_cons.1 hs3.2.1).1 x hx
      rw [e, hk', bl_irrefl] at this; cases this
    have hl : fnd l k = (fnd (l.take p) k).or (if l[p].key = k then some l[p] else fnd (l.drop (p + 1)) k) := by
      conv => lhs; rw [e]
      rw [fnd_append, fnd_cons]
    by_cases hg : r.gone = true
    · rw [if_pos hg, List.eraseIdx_eq_take_drop_succ, fnd_append]
      by_cases hkk : r.key = k
      · subst hkk; rw [if_pos rfl, if_pos hg, hA, hB]; rfl
      · rw [if_neg hkk, hl, if_neg (by rw [hk']; exact hkk)]
    · rw [if_neg hg, List.set_eq_take_append_cons_drop, if_pos hlt', fnd_append, fnd_cons]
      by_cases hkk : r.key = k
      · subst hkk; rw [if_pos rfl, if_pos rfl, if_neg hg, hA]; rfl
      · rw [if_neg hkk, if_neg hkk, hl, if_neg (by rw [hk']; exact hkk)]
  · rw [if_neg hb]
    have hno : fnd l r.key = none := by
      rw [hasK_fnd] at hb
      cases h : fnd l r.key with
      | none => rfl
      | some x => rw [h] at hb; simp at hb
    by_cases hg : r.gone = true
    · rw [if_pos hg]
      by_cases hkk : r.key = k
      · subst hkk; rw [if_pos rfl, if_pos hg, hno]
      · rw [if_neg hkk]
    · rw [if_neg hg]
      have e : l = l.take (lb l r.key) ++ l.drop (lb l r.key) := by simp
      have hl : fnd l k = (fnd (l.take (lb l r.key)) k).or (fnd (l.drop (lb l r.key)) k) := by
        conv => lhs; rw [e]
        rw [fnd_append]
      rw [fnd_append, fnd_append, fnd_cons]
      by_cases hkk : r.key = k
      · subst hkk
        rw [if_pos rfl, if_pos rfl, if_neg hg]
        rw [hno] at hl
        cases h : fnd (l.take (lb l r.key)) r.key with
        | none => rfl
        | some x => rw [h] at hl; cases hl
      · rw [if_neg hkk, if_neg hkk, hl]
        show (Option.or (Option.or _ none) _) = _
        rw [Option.or_none]
theorem clean_sublist {h : Int} : ∀ {q : List RecA}, (cleanL h q).Sublist q
  | [] => List.Sublist.refl _
  | r :: q => by
    simp only [cleanL]
    split
    · exact (clean_sublist (q := q)).cons_cons r
    · exact (clean_sublist (q := q)).cons r
/-- The last record of a key. -/
def lastOf (q : List RecA) (k : List UInt8) : Option RecA := fnd q.reverse k
theorem lastOf_nil {k : List UInt8} : lastOf [] k = none := rfl
theorem lastOf_cons {r : RecA} {q : List RecA} {k : List UInt8} : lastOf (r :: q) k = (lastOf q k).or (if r.key = k then some r else none) := by
  unfold lastOf
  rw [List.reverse_cons, fnd_append, fnd_cons]
  rfl
def keepR (r : RecA) : Option RecA := if r.gone = true then none else some r
theorem fnd_apply : ∀ {q l : List RecA} (hs : SortedK l) (k : List UInt8), fnd (applyL l q) k = match lastOf q k with
    | some r => keepR r
    | none => fnd l k
  | [], l, hs, k => rfl
  | r :: q, l, hs, k => by
    show fnd (applyL (tset l r) q) k = _
    rw [fnd_apply (q := q) (tset_sorted hs) k, fnd_tset hs, lastOf_cons]
    cases h : lastOf q k with
    | some x => rfl
    | none =>
      show (if r.key = k then _ else _) = _
      by_cases hk : r.key = k <;> simp [hk, keepR]
theorem applyL_append {l a b : List RecA} : applyL l (a ++ b) = applyL (applyL l a) b := by unfold applyL; rw [List.foldl_append]
theorem sortedK_nil : SortedK [] := List.Pairwise.nil
theorem lastOf_none {q : List RecA} {k : List UInt8} : lastOf q k = none ↔ ∀ r ∈ q, r.key ≠ k := by
  unfold lastOf; rw [fnd_none]; simp
/-- What stays of records comes to the same. -/
theorem lastOf_clean {h : Int} {k : List UInt8} : ∀ {q : List RecA}, (lastOf (cleanL h q) k).bind keepR = (lastOf q k).bind keepR
  | [] => rfl
  | r :: q => by
    have ih := lastOf_clean (h := h) (k := k) (q := q)
    rw [cleanL_cons]
    by_cases hk : r.key = k
    · subst hk
      rw [lastOf_cons, if_pos rfl]
      by_cases hn : (q.all fun x => !decide (x.key = r.key)) = true
      · have h0 : lastOf q r.key = none := lastOf_none.2 fun x hx e => by
          have := List.all_eq_true.1 hn x hx
          simp [e] at this
        have h1 : lastOf (cleanL h q) r.key = none := lastOf_none.2 fun x hx e => lastOf_none.1 h0 x (clean_sublist.subset hx) e
        rw [h0]
        simp only [hn, Bool.true_and]
        split
        · rw [List.singleton_append, lastOf_cons, h1, if_pos rfl]
        · rename_i hg
          rw [List.nil_append, h1]
          have : r.gone = true := by
            cases hgg : r.gone with
            | true => rfl
            | false => simp [hgg] at hg
          simp [keepR, this]
      · have h0 : ∃ y, lastOf q r.key = some y := by
          cases hl : lastOf q r.key with
          | some y => exact ⟨y, rfl⟩
          | none =>
            exfalso; apply hn
            refine List.all_eq_true.2 fun x hx => ?_
            have := lastOf_none.1 hl x hx
            simpa using this
        obtain ⟨y, hy⟩ := h0
        simp only [hn, Bool.false_and, Bool.false_eq_true, if_false, List.nil_append]
        rw [ih, hy]; rfl
    · rw [lastOf_cons, if_neg hk]
      have e : ∀ z, lastOf ((if ((q.all fun x => !decide (x.key = r.key)) && !(r.gone && decide (r.time < h))) = true then [r] else []) ++ z) k = lastOf z k := fun z => by
        split
        · rw [List.singleton_append, lastOf_cons, if_neg hk, Option.or_none]
        · rfl
      rw [e, Option.or_none]
      exact ih
theorem apply_clean {h : Int} {q : List RecA} : applyL [] (cleanL h q) = applyL [] q := by
  refine tab_ext (applyL_sorted sortedK_nil) (applyL_sorted sortedK_nil) fun k => ?_
  rw [fnd_apply sortedK_nil, fnd_apply sortedK_nil]
  have := lastOf_clean (h := h) (k := k) (q := q)
  revert this
  cases lastOf (cleanL h q) k <;> cases lastOf q k <;> simp [fnd] <;> intro h <;> first | exact h | exact h.symm
/-! Offsets that rise. -/
theorem riseL_pair {l : List RecA} : riseL l = true ↔ l.Pairwise fun a b => a.off < b.off := by
  induction l with
  | nil => simp [riseL]
  | cons a l ih =>
    cases l with
    | nil => simp [riseL]
    | cons b l =>
      simp only [riseL, Bool.and_eq_true, decide_eq_true_eq, ih]
      constructor
      · rintro ⟨h1, h2⟩
        refine List.pairwise_cons.2 ⟨fun x hx => ?_, h2⟩
        rcases List.mem_cons.1 hx with rfl | hx
        · exact h1
        · exact Int.lt_trans h1 ((List.pairwise_cons.1 h2).1 x hx)
      · intro h
        have := List.pairwise_cons.1 h
        exact ⟨this.1 b (by simp), this.2⟩
theorem okQ_iff {nx : Int} {q : List RecA} : okQ nx q = true ↔ (q.Pairwise fun a b => a.off < b.off) ∧ ∀ r ∈ q, nx ≤ r.off ∧ r.off ≤ 1099511627776 := by
  have hl : ∀ {q : List RecA} (hp : q.Pairwise fun a b => a.off < b.off) (h : 0 < q.length), ∀ r ∈ q, r.off ≤ q[q.length - 1].off := fun {q} hp h r hr => by
    obtain ⟨j, hj, rfl⟩ := List.mem_iff_getElem.1 hr
    by_cases he : j = q.length - 1
    · subst he; exact Int.le_refl _
    · exact Int.le_of_lt (List.pairwise_iff_getElem.1 hp j (q.length - 1) hj (by omega) (by omega))
  cases q with
  | nil => simp [okQ, riseF, riseL]
  | cons a q =>
    have hlast := lastq_get (q := a :: q) (by simp)
    rw [okQ, hlast]
    simp only [riseF, Bool.and_eq_true, decide_eq_true_eq, riseL_pair]
    constructor
    · rintro ⟨⟨h1, h2⟩, h3⟩
      refine ⟨h2, fun r hr => ⟨?_, Int.le_trans (hl h2 (by simp) r hr) h3⟩⟩
      rcases List.mem_cons.1 hr with rfl | hr
      · exact h1
      · exact Int.le_trans h1 (Int.le_of_lt ((List.pairwise_cons.1 h2).1 r hr))
    · rintro ⟨h1, h2⟩
      exact ⟨⟨(h2 a (by simp)).1, h1⟩, (h2 _ (List.getElem_mem _)).2⟩
theorem okQ_sub {nx : Int} {p q : List RecA} (h : okQ nx q = true) (hs : p.Sublist q) : okQ nx p = true := by
  rw [okQ_iff] at *
  exact ⟨h.1.sublist hs, fun r hr => h.2 r (hs.subset hr)⟩
theorem applyN_in {nx : Int} {q : List RecA} (h : okQ nx q = true) (h0 : -9223372036854775808 ≤ nx) (hne : 0 < q.length) : applyN nx q = q[q.length - 1].off + 1 := by
  have hb := (okQ_iff.1 h).2 _ (List.getElem_mem (l := q) (n := q.length - 1) (by omega))
  rw [applyN, lastq_get hne]
  exact IntWalk.i64_in _ ⟨by omega, by omega⟩
/-- The parts of records that may be applied may be applied one behind the other. -/
theorem okQ_append {nx : Int} {a b : List RecA} (h0 : -9223372036854775808 ≤ nx) (h : okQ nx (a ++ b) = true) : okQ nx a = true ∧ okQ (applyN nx a) b = true ∧ applyN (applyN nx a) b = applyN nx (a ++ b) := by
  have ha := okQ_sub h (List.sublist_append_left a b)
  refine ⟨ha, ?_, ?_⟩
  · rw [okQ_iff] at h ⊢
    have h1 := List.pairwise_append.1 h.1
    refine ⟨h1.2.1, fun r hr => ⟨?_, (h.2 r (by simp [hr])).2⟩⟩
    rcases Nat.eq_zero_or_pos a.length with hz | hz
    · have : a = [] := List.length_eq_zero_iff.1 hz
      subst this; exact (h.2 r (by simpa using hr)).1
    · rw [applyN_in ha h0 hz]
      have := h1.2.2 _ (List.getElem_mem (l := a) (n := a.length - 1) (by omega)) r hr
      omega
  · cases b with
    | nil => simp [applyN]
    | cons x b => unfold applyN; rw [List.getLast?_append, List.getLast?_cons]; rfl
end Go.Ev
