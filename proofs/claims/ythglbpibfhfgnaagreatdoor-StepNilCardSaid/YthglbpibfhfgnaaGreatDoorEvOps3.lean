/-
Operations on numbers, texts, bools, addresses, lengths, parts: what the evaluator says of them is so.
-/
import Derived.Test.YthglbpibfhfgnaaGreatDoorEvOps2
set_option linter.unusedVariables false
namespace Go.Ev
variable {Sp : FuncId → List AV → AV → List AV → Prop} {P : Program} {E : Env} {s : S} {a : Act} {w : World} {L : List Nat} {K : S → AV → Prop}

theorem two64 (a b : ByteArray) (h : a.size + b.size ≤ 140737488355328) : ¬ (((a.size + b.size : Nat) : Int) > IntKind.i64.max) := by
  have : IntKind.i64.max = 9223372036854775807 := rfl
  rw [this]; omega

theorem guard_scalar {op : BinOp} {t : TypeId} {x y : Operand} {u v : Value} (h1 : u.oneCell' = true) (h2 : u ≠ .nilIface) : (eqGuard op t x y u v).run P w = .ok () w := by
  unfold eqGuard
  cases op <;> simp <;> cases u <;> first | rfl | (simp [Value.oneCell'] at h1; done) | (simp at h2; done)

theorem bin_val (hR : R E s a w L) {op : BinOp} {t : TypeId} {ox oy : Operand} {cx cy r : Value} {v : AV} (hg : (eqGuard op t ox oy cx cy).run P w = .ok () w) (hb : (binOp op t cx cy).run P w = .ok r w) (hv : Rep E v r []) (h : outW Sp (.ok s v) K) :
    DidG true E s a w L K ((do eqGuard op t ox oy cx cy; binOp op t cx cy : Sem Value).run P w) := by
  simp only [Sem.run_bind, hg, Result.andThen_ok, hb]
  exact did_ok hR h hv

theorem bin_agg {t : TypeId} {as cs : List AV} {cx cy : Value} (hx : Rep E (.agg as) cx []) (hy : Rep E (.agg cs) cy []) {lk : List LK} {r : Bool} (hlk : leavesT P t = some lk) (hr : eqLK lk as cs = some r) :
    ∃ vs us, cx = .agg vs ∧ cy = .agg us ∧ (Op.equalIn 10000 t (.agg vs) (.agg us)).run P w = .ok r w ∧ P.eqGuardType P.depth t = false := by
  cases hx with
  | agg hx =>
    cases hy with
    | agg hy =>
      rename_i vs us
      unfold leavesT at hlk
      split at hlk
      · cases hlk
      · rename_i hg
        simp only [Bool.or_eq_true, Bool.not_eq_true', not_or] at hg
        refine ⟨vs, us, rfl, rfl, ?_, by simpa using hg.1⟩
        have := equalIn_run (P := P) (w := w) 12 10000 (by omega) hlk hr hx hy
        have hagg : aggT P t = true := by simpa using hg.2
        simpa [valT, hagg] using this

theorem boolT_und {t : TypeId} (h : boolT P t = true) : P.underlying t = some .bool := by
  unfold boolT at h; split at h <;> first | assumption | cases h
theorem ptrT_und {t : TypeId} (h : ptrT P t = true) : ∃ e, P.underlying t = some (.pointer e) := by
  unfold ptrT at h; split at h <;> first | exact ⟨_, ‹_›⟩ | cases h

theorem ptr_nil1 (d : Nat) {t e : TypeId} (ht : P.underlying t = some (.pointer e)) (b : Option Addr) : (Op.equalIn (d + 1) t (.pointer none) (.pointer b)).run P w = .ok b.isNone w := by
  simp only [Op.equalIn, Sem.run_bind, run_underlying ht, Result.andThen_ok, Sem.run_pure]
theorem ptr_nil2 (d : Nat) {t e : TypeId} (ht : P.underlying t = some (.pointer e)) (p : Addr) : (Op.equalIn (d + 1) t (.pointer (some p)) (.pointer none)).run P w = .ok false w := by
  simp only [Op.equalIn, Sem.run_bind, run_underlying ht, Result.andThen_ok, Sem.run_pure]
theorem eql_ptr1 {t e : TypeId} (ht : P.underlying t = some (.pointer e)) (b : Option Addr) : (binOp .eql t (.pointer none) (.pointer b)).run P w = .ok (.bool b.isNone) w := by
  have : binOp .eql t (.pointer none) (.pointer b) = (do pure (.bool (← Op.equalIn (9999 + 1) t (.pointer none) (.pointer b))) : Sem Value) := rfl
  rw [this, Sem.run_bind, ptr_nil1 _ ht]; rfl
theorem neq_ptr1 {t e : TypeId} (ht : P.underlying t = some (.pointer e)) (b : Option Addr) : (binOp .neq t (.pointer none) (.pointer b)).run P w = .ok (.bool (!b.isNone)) w := by
  have : binOp .neq t (.pointer none) (.pointer b) = (do pure (.bool (!(← Op.equalIn (9999 + 1) t (.pointer none) (.pointer b)))) : Sem Value) := rfl
  rw [this, Sem.run_bind, ptr_nil1 _ ht]; rfl
theorem eql_ptr2 {t e : TypeId} (ht : P.underlying t = some (.pointer e)) (p : Addr) : (binOp .eql t (.pointer (some p)) (.pointer none)).run P w = .ok (.bool false) w := by
  have : binOp .eql t (.pointer (some p)) (.pointer none) = (do pure (.bool (← Op.equalIn (9999 + 1) t (.pointer (some p)) (.pointer none))) : Sem Value) := rfl
  rw [this, Sem.run_bind, ptr_nil2 _ ht]; rfl
theorem neq_ptr2 {t e : TypeId} (ht : P.underlying t = some (.pointer e)) (p : Addr) : (binOp .neq t (.pointer (some p)) (.pointer none)).run P w = .ok (.bool true) w := by
  have : binOp .neq t (.pointer (some p)) (.pointer none) = (do pure (.bool (!(← Op.equalIn (9999 + 1) t (.pointer (some p)) (.pointer none)))) : Sem Value) := rfl
  rw [this, Sem.run_bind, ptr_nil2 _ ht]; rfl

theorem bin_did (hR : R E s a w L) {op : BinOp} {t : TypeId} {ox oy : Operand} {x y : AV} {cx cy : Value} (hx : Rep E x cx []) (hy : Rep E y cy []) (h : outW Sp (binO P t s op x y) K) :
    DidG true E s a w L K ((do eqGuard op t ox oy cx cy; binOp op t cx cy : Sem Value).run P w) := by
  have gi : ∀ {op : BinOp} {k : IntKind} {n : Int} {v : Value}, (eqGuard op t ox oy (.int k n) v).run P w = .ok () w := guard_scalar rfl (by simp)
  have gs : ∀ {op : BinOp} {n : ByteArray} {v : Value}, (eqGuard op t ox oy (.string n) v).run P w = .ok () w := guard_scalar rfl (by simp)
  have gb : ∀ {op : BinOp} {n : Bool} {v : Value}, (eqGuard op t ox oy (.bool n) v).run P w = .ok () w := guard_scalar rfl (by simp)
  have gp : ∀ {op : BinOp} {n : Option Addr} {v : Value}, (eqGuard op t ox oy (.pointer n) v).run P w = .ok () w := guard_scalar rfl (by simp)
  unfold binO at h
  split at h
  · obtain ⟨rfl, h⟩ := h; cases hx; cases hy; exact bin_val hR gi (by simp [binOp, Op.intArith]) (.int _ _) h
  · obtain ⟨rfl, h⟩ := h; cases hx; cases hy; exact bin_val hR gi (by simp [binOp, Op.intArith]) (.int _ _) h
  · obtain ⟨rfl, h⟩ := h; cases hx; cases hy; exact bin_val hR gi (by simp [binOp, Op.intArith]) (.int _ _) h
  · obtain ⟨⟨rfl, hz⟩, h⟩ := h; cases hx; cases hy; exact bin_val hR gi (by simp [binOp, Op.intDiv, hz]) (.int _ _) h
  · obtain ⟨⟨rfl, hz⟩, h⟩ := h; cases hx; cases hy; exact bin_val hR gi (by simp [binOp, Op.intDiv, hz]) (.int _ _) h
  · obtain ⟨rfl, h⟩ := h; cases hx; cases hy; exact bin_val hR gi (by simp [binOp, Op.intCmp]) (.bool _) h
  · obtain ⟨rfl, h⟩ := h; cases hx; cases hy; exact bin_val hR gi (by simp [binOp, Op.intCmp]) (.bool _) h
  · obtain ⟨rfl, h⟩ := h; cases hx; cases hy; exact bin_val hR gi (by simp [binOp, Op.intCmp]) (.bool _) h
  · obtain ⟨rfl, h⟩ := h; cases hx; cases hy; exact bin_val hR gi (by simp [binOp, Op.intCmp]) (.bool _) h
  · obtain ⟨hz, h⟩ := h; cases hx; cases hy; exact bin_val hR gi (by simp [binOp, Op.shift, Int.not_lt.2 hz]) (.int _ _) h
  · obtain ⟨hz, h⟩ := h; cases hx; cases hy; exact bin_val hR gi (by simp [binOp, Op.shift, Int.not_lt.2 hz]) (.int _ _) h
  · obtain ⟨rfl, h⟩ := h; cases hx; cases hy; exact bin_val hR gi (by simp [binOp, Op.intBits]) (.int _ _) h
  · obtain ⟨rfl, h⟩ := h; cases hx; cases hy; exact bin_val hR gi (by simp [binOp, Op.intBits]) (.int _ _) h
  · obtain ⟨hz, h⟩ := h; cases hx; cases hy; exact bin_val hR gs (by simp only [binOp, Op.stringOp, if_neg (two64 _ _ hz), Sem.run_pure]) (.str _ (by rw [ByteArray.size_append]; exact hz)) h
  · cases hx; cases hy; exact bin_val hR gs (by simp [binOp, Op.stringOp]) (.bool _) h
  · cases hx; cases hy; exact bin_val hR gs (by simp [binOp, Op.stringOp]) (.bool _) h
  · cases hx; cases hy; exact bin_val hR gs (by simp [binOp, Op.stringOp]) (.bool _) h
  · cases hx; cases hy; exact bin_val hR gs (by simp [binOp, Op.stringOp]) (.bool _) h
  · obtain ⟨rfl, h⟩ := h; cases hx; cases hy; exact bin_val hR gi (by simp [binOp, Op.intCmp]) (.bool _) h
  · obtain ⟨rfl, h⟩ := h; cases hx; cases hy; exact bin_val hR gi (by simp [binOp, Op.intCmp]) (.bool _) h
  · cases hx; cases hy; exact bin_val hR gs (by simp [binOp, Op.stringOp]) (.bool _) h
  · cases hx; cases hy; exact bin_val hR gs (by simp [binOp, Op.stringOp]) (.bool _) h
  · obtain ⟨ht, h⟩ := h; cases hx; cases hy; have ht := boolT_und ht; exact bin_val hR gb (by simp [binOp, Op.equal, Op.maxDepth, run_equalIn_bool' (P := P) w _ t _ _ ht]) (.bool _) h
  · obtain ⟨ht, h⟩ := h; cases hx; cases hy; have ht := boolT_und ht; exact bin_val hR gb (by simp [binOp, Op.equal, Op.maxDepth, run_equalIn_bool' (P := P) w _ t _ _ ht]) (.bool _) h
  · obtain ⟨ht, h⟩ := h; cases hx; cases hy; obtain ⟨e, ht⟩ := ptrT_und ht; exact bin_val hR gp (eql_ptr1 ht _) (.bool _) h
  · obtain ⟨ht, h⟩ := h; cases hx; cases hy; obtain ⟨e, ht⟩ := ptrT_und ht; exact bin_val hR gp (neq_ptr1 ht _) (.bool _) h
  · obtain ⟨ht, h⟩ := h; cases hx; cases hy; obtain ⟨e, ht⟩ := ptrT_und ht; exact bin_val hR gp (eql_ptr2 ht _) (.bool _) h
  · obtain ⟨ht, h⟩ := h; cases hx; cases hy; obtain ⟨e, ht⟩ := ptrT_und ht; exact bin_val hR gp (neq_ptr2 ht _) (.bool _) h
  · obtain ⟨lk, hlk, h⟩ := outW_okO h
    obtain ⟨r, hr, h⟩ := outW_okO h
    obtain ⟨vs, us, rfl, rfl, he, hg⟩ := bin_agg (w := w) hx hy hlk hr
    exact bin_val hR (run_eqGuard_agg w _ t ox oy vs us hg) (by rw [run_eql_struct, he]; rfl) (.bool _) h
  · obtain ⟨lk, hlk, h⟩ := outW_okO h
    obtain ⟨r, hr, h⟩ := outW_okO h
    obtain ⟨vs, us, rfl, rfl, he, hg⟩ := bin_agg (w := w) hx hy hlk hr
    exact bin_val hR (run_eqGuard_agg w _ t ox oy vs us hg) (by rw [run_neq_struct, he]; rfl) (.bool _) h
  · exact h.elim
end Go.Ev
