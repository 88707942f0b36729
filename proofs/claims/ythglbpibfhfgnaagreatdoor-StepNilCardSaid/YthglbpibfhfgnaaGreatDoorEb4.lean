/-
The closed evaluator: operators, addresses, parts.
-/
import Derived.Test.YthglbpibfhfgnaaGreatDoorEb3
set_option linter.unusedVariables false
set_option linter.unusedSimpArgs false
namespace Go.Eb
open Go.Ev (szT byT aggO offT fszT TK kindT elemK zok LK leavesT openB kind_slice kind_array kind_str kind_int run_sizeOf szT_info addr_add)
variable {A : Type} {P : Program} {w0 : World} {g : Env} {F : Fr} {M : Mm} {n m : Nat} {a : Act} {w : World} {K : V → Mm → Nat → Option A} {r : A}

theorem kind_map {t k e : TypeId} (h : kindT P t = .map k e) : P.underlying t = some (.map k e) := by
  unfold kindT at h
  split at h <;> first | (injection h with h h'; subst h h'; assumption) | cases h

theorem shiftB_did (hM : RM w0 g M n w) {op : BinOp} {t : TypeId} {j k : IntKind} {x y : Int} (h : shiftB op j x y M n K = some r) : DidS w0 g M n w K r ((binOp op t (.int j x) (.int k y)).run P w) := by
  unfold shiftB at h
  split at h
  · replace h := bb_some h; obtain ⟨hz, h⟩ := h
    rw [leI_eq] at hz
    have hz : 0 ≤ y := by simpa using hz
    rw [kI_eq] at h
    exact (show (binOp .shl t (.int j x) (.int k y)).run P w = .ok (.int j (j.wrap (x * 2 ^ (min y.toNat j.bits)))) w by simp [binOp, Op.shift, Int.not_lt.2 hz]) ▸ did_ok hM h (.int _ _)
  · replace h := bb_some h; obtain ⟨hz, h⟩ := h
    rw [leI_eq] at hz
    have hz : 0 ≤ y := by simpa using hz
    rw [forceI_eq] at h
    exact (show (binOp .shr t (.int j x) (.int k y)).run P w = .ok (.int j (x.fdiv (2 ^ (min y.toNat j.bits)))) w by simp [binOp, Op.shift, Int.not_lt.2 hz]) ▸ did_ok hM h (.int _ _)
  · cases h

theorem strB_did (hM : RM w0 g M n w) {op : BinOp} {t : TypeId} {x y : ByteArray} (h : strB op (natsOf x) (natsOf y) M n K = some r) : DidS w0 g M n w K r ((binOp op t (.string x) (.string y)).run P w) := by
  unfold strB at h
  have he : (x.toList == y.toList) = eqL (natsOf x) (natsOf y) := by rw [beq_nats, eqL_eq]
  have hl : Op.bytesLess x.toList y.toList = ltL (natsOf x) (natsOf y) := by rw [lt_nats, ltL_eq]
  split at h
  · replace h := bb_some h; obtain ⟨hz, h⟩ := h
    have hz := Nat.le_of_ble_eq_true hz
    rw [natsOf_length, natsOf_length] at hz
    exact (show (binOp .add t (.string x) (.string y)).run P w = .ok (.string (x ++ y)) w by simp only [binOp, Op.stringOp, if_neg (Ev.two64 _ _ hz), Sem.run_pure]) ▸ did_ok hM h (.str (natsOf_append x y).symm (by rw [ByteArray.size_append]; exact hz))
  · rw [kB_eq] at h
    exact (show (binOp .eql t (.string x) (.string y)).run P w = .ok (.bool (eqL (natsOf x) (natsOf y))) w by simp only [binOp, Op.stringOp, he, hl, Sem.run_pure]) ▸ did_ok hM h (.bool _)
  · rw [kB_eq] at h
    exact (show (binOp .neq t (.string x) (.string y)).run P w = .ok (.bool (!eqL (natsOf x) (natsOf y))) w by simp only [binOp, Op.stringOp, he, hl, Sem.run_pure]) ▸ did_ok hM h (.bool _)
  · rw [kB_eq] at h
    exact (show (binOp .lss t (.string x) (.string y)).run P w = .ok (.bool (ltL (natsOf x) (natsOf y))) w by simp only [binOp, Op.stringOp, he, hl, Sem.run_pure]) ▸ did_ok hM h (.bool _)
  · rw [kB_eq] at h
    exact (show (binOp .leq t (.string x) (.string y)).run P w = .ok (.bool (ltL (natsOf x) (natsOf y) || eqL (natsOf x) (natsOf y))) w by simp only [binOp, Op.stringOp, he, hl, Sem.run_pure]) ▸ did_ok hM h (.bool _)
  · rw [kB_eq] at h
    exact (show (binOp .gtr t (.string x) (.string y)).run P w = .ok (.bool (!(ltL (natsOf x) (natsOf y) || eqL (natsOf x) (natsOf y)))) w by simp only [binOp, Op.stringOp, he, hl, Sem.run_pure]) ▸ did_ok hM h (.bool _)
  · rw [kB_eq] at h
    exact (show (binOp .geq t (.string x) (.string y)).run P w = .ok (.bool (!ltL (natsOf x) (natsOf y))) w by simp only [binOp, Op.stringOp, he, hl, Sem.run_pure]) ▸ did_ok hM h (.bool _)
  · cases h

theorem binOp_eql {t : TypeId} {cx cy : Value} {b : Bool} (he : (Op.equal t cx cy).run P w = .ok b w) (h1 : ∀ k n, cx ≠ .int k n) (h2 : ∀ s, cx ≠ .string s) (h3 : ∀ k b, cx ≠ .float k b) (h4 : ∀ k a b, cx ≠ .complex k a b) :
    (binOp .eql t cx cy).run P w = .ok (.bool b) w ∧ (binOp .neq t cx cy).run P w = .ok (.bool (!b)) w := by
  have e1 : binOp .eql t cx cy = (do pure (.bool (← Op.equal t cx cy)) : Sem Value) := by
    cases cx <;> first | rfl | exact absurd rfl (h1 _ _) | exact absurd rfl (h2 _) | exact absurd rfl (h3 _ _) | exact absurd rfl (h4 _ _ _)
  have e2 : binOp .neq t cx cy = (do pure (.bool (!(← Op.equal t cx cy))) : Sem Value) := by
    cases cx <;> first | rfl | exact absurd rfl (h1 _ _) | exact absurd rfl (h2 _) | exact absurd rfl (h3 _ _) | exact absurd rfl (h4 _ _ _)
  rw [e1, e2]
  simp only [Sem.run_bind, he, Result.andThen_ok, Sem.run_pure, and_self]

theorem dec2_rep {t f b : Bool} (ht : t = true → b = true) (hf : f = true → b = false) : Rep g (dec2 t f) (.bool b) := by
  unfold dec2
  split
  · rw [ht rfl]; exact .bool _
  · split
    · rw [hf rfl]; exact .bool _
    · exact .anyb _
theorem cmpR_run {op : BinOp} {t : TypeId} {k : IntKind} {x x' y y' p q : Int} {v : V} (h : cmpR op x x' y y' = some v) (h1 : x ≤ p) (h2 : p ≤ x') (h3 : y ≤ q) (h4 : q ≤ y') : ∃ b, (binOp op t (.int k p) (.int k q)).run P w = .ok (.bool b) w ∧ Rep g v (.bool b) := by
  unfold cmpR at h
  simp only [leI_eq] at h
  split at h
  · injection h with h; subst h
    refine ⟨decide (p < q), by simp [binOp, Op.intCmp], dec2_rep (fun h => ?_) fun h => ?_⟩ <;> simp at h ⊢ <;> omega
  · injection h with h; subst h
    refine ⟨decide (p ≤ q), by simp [binOp, Op.intCmp], dec2_rep (fun h => ?_) fun h => ?_⟩ <;> simp at h ⊢ <;> omega
  · injection h with h; subst h
    refine ⟨decide (q < p), by simp [binOp, Op.intCmp], dec2_rep (fun h => ?_) fun h => ?_⟩ <;> simp at h ⊢ <;> omega
  · injection h with h; subst h
    refine ⟨decide (q ≤ p), by simp [binOp, Op.intCmp], dec2_rep (fun h => ?_) fun h => ?_⟩ <;> simp at h ⊢ <;> omega
  · injection h with h; subst h
    refine ⟨decide (p = q), by simp [binOp, Op.intCmp, BEq.beq], dec2_rep (fun h => by cases h) fun h => ?_⟩
    simp at h ⊢; omega
  · injection h with h; subst h
    refine ⟨!decide (p = q), by simp [binOp, Op.intCmp, bne, BEq.beq], dec2_rep (fun h => ?_) fun h => by cases h⟩
    simp at h ⊢; omega
  · cases h
theorem cmpS_run {op : BinOp} {t : TypeId} {x y : ByteArray} {v : V} (h : cmpS op = some v) : ∃ b, (binOp op t (.string x) (.string y)).run P w = .ok (.bool b) w ∧ Rep g v (.bool b) := by
  unfold cmpS at h
  split at h
  · injection h with h; subst h
    exact ⟨x.toList == y.toList, by simp only [binOp, Op.stringOp, Sem.run_pure], .anyb _⟩
  · injection h with h; subst h
    exact ⟨!(x.toList == y.toList), by simp only [binOp, Op.stringOp, Sem.run_pure], .anyb _⟩
  · cases h
theorem rng_did (hM : RM w0 g M n w) {op : BinOp} {t : TypeId} {ox oy : Operand} {j k : IntKind} {x x' y y' p q : Int} (h1 : x ≤ p) (h2 : p ≤ x') (h3 : y ≤ q) (h4 : q ≤ y') (h : bb (decide (j = k)) (ob (cmpR op x x' y y') fun v => K v M n) = some r) :
    DidS w0 g M n w K r ((do eqGuard op t ox oy (.int j p) (.int k q); binOp op t (.int j p) (.int k q) : Sem Value).run P w) := by
  replace h := bb_some h; obtain ⟨e, h⟩ := h
  obtain rfl : _ = _ := of_decide_eq_true e
  replace h := ob_some h; obtain ⟨v, hv, h⟩ := h
  obtain ⟨b, hb, hr⟩ := cmpR_run (P := P) (w := w) (g := g) (t := t) (k := j) hv h1 h2 h3 h4
  exact bin_val hM (guard_scalar rfl (by simp)) (hb ▸ did_ok hM h hr)
theorem cmpS_did (hM : RM w0 g M n w) {op : BinOp} {t : TypeId} {ox oy : Operand} {x y : ByteArray} (h : ob (cmpS op) (fun v => K v M n) = some r) :
    DidS w0 g M n w K r ((do eqGuard op t ox oy (.string x) (.string y); binOp op t (.string x) (.string y) : Sem Value).run P w) := by
  replace h := ob_some h; obtain ⟨v, hv, h⟩ := h
  obtain ⟨b, hb, hr⟩ := cmpS_run (P := P) (w := w) (g := g) (t := t) (x := x) (y := y) hv
  exact bin_val hM (guard_scalar rfl (by simp)) (hb ▸ did_ok hM h hr)

theorem binB_did (hM : RM w0 g M n w) {op : BinOp} {t : TypeId} {ox oy : Operand} {x y : V} {cx cy : Value} (hx : Rep g x cx) (hy : Rep g y cy) (h : binB P op t x y M n K = some r) :
    DidS w0 g M n w K r ((do eqGuard op t ox oy cx cy; binOp op t cx cy : Sem Value).run P w) := by
  unfold binB at h
  split at h
  · cases hx; cases hy
    refine bin_val hM (guard_scalar rfl (by simp)) ?_
    split at h
    · exact shiftB_did hM h
    · exact shiftB_did hM h
    · rename_i h1 h2
      replace h := bb_some h; obtain ⟨e, h3⟩ := h
      obtain rfl : _ = _ := of_decide_eq_true e
      exact intB_did hM h3 ⟨h1, h2⟩
  · cases hx with | str e1 s1 => cases hy with | str e2 s2 =>
      subst e1 e2
      exact bin_val hM (guard_scalar rfl (by simp)) (strB_did hM h)
  · cases hx with | rng h1 h2 => cases hy; exact rng_did hM h1 h2 (Int.le_refl _) (Int.le_refl _) h
  · cases hx; cases hy with | rng h1 h2 => exact rng_did hM (Int.le_refl _) (Int.le_refl _) h1 h2 h
  · cases hx with | rng h1 h2 => cases hy with | rng h3 h4 => exact rng_did hM h1 h2 h3 h4 h
  · cases hx; cases hy; exact cmpS_did hM h
  · cases hx; cases hy; exact cmpS_did hM h
  · cases hx; cases hy; exact cmpS_did hM h
  · split at h
    · obtain ⟨b, hb, he, hg, h1, h2, h3, h4⟩ := eqT_run (P := P) (w := w) h hx hy
      rw [kB_eq] at hb
      exact bin_val hM (hg _ _ _) ((binOp_eql he h1 h2 h3 h4).1 ▸ did_ok hM hb (.bool _))
    · obtain ⟨b, hb, he, hg, h1, h2, h3, h4⟩ := eqT_run (P := P) (w := w) h hx hy
      rw [kB_eq] at hb
      exact bin_val hM (hg _ _ _) ((binOp_eql he h1 h2 h3 h4).2 ▸ did_ok hM hb (.bool _))
    · cases h

theorem unB_did (hM : RM w0 g M n w) {op : UnOp} {x : V} {cx : Value} (hx : Rep g x cx) (h : unB op x M n K = some r) : DidS w0 g M n w K r ((Op.unary op cx).run P w) := by
  unfold unB at h
  split at h
  · cases hx; rw [kB_eq] at h; exact did_ok hM h (.bool _)
  · cases hx; exact did_ok hM h (.anyb _)
  · cases hx; rw [kI_eq] at h; exact did_ok hM h (.int _ _)
  · cases hx
    replace h := ob_some h; obtain ⟨z, hz, h⟩ := h
    rw [kI_eq] at h
    have hb := bitsO_run (P := P) (w := w) hz
    exact (show (Op.unary .xor (.int _ _)).run P w = _ from hb) ▸ did_ok hM h (.int _ _)
  · cases h

theorem extractB_did (hM : RM w0 g M n w) {x : V} {i : Nat} {cx : Value} (hx : Rep g x cx) (h : extractB M n x i K = some r) : DidS w0 g M n w K r ((Instr.extract cx i).run P w) := by
  unfold extractB at h
  split at h
  · replace h := ob_some h; obtain ⟨v, hv, h⟩ := h
    cases hx with | tup hx =>
      obtain ⟨cv, hcv, hr⟩ := hx.get hv
      rename_i vs
      have : (Instr.extract (.tuple vs) i).run P w = .ok cv w := by
        have hcv' : vs[i]? = some cv := by rw [← Array.getElem?_toList]; exact hcv
        simp [Instr.extract, hcv']
      exact this ▸ did_ok hM h hr
  · cases h

theorem nilCheckB_did (hM : RM w0 g M n w) {x : V} {cx : Value} (hx : Rep g x cx) (h : nilCheckB M n x K = some r) : DidS w0 g M n w K r (.ok cx w) ∧
    (∀ {q : Result Next}, q = (match cx with
      | .pointer none | .nilIface | .nilFunc => runtimePanic .nilDeref
      | .func (.method name) first captured =>
        match (first[0]? : Option Value) with
        | some .nilIface => runtimePanic .nilDeref
        | some (.iface t w) => do
          if (← nilAhead ((← program).types.size + Made.depth) t w name) != some false then
            unsupported (.noEntry "op/nilCheck.the method's receiver behind this interface value is a nil pointer, or cannot be seen to be none, and the arguments act or may panic (ledger 612)")
          pure (.value (.func (.method name) first captured))
        | _ => pure (.value (.func (.method name) first captured))
      | x => pure (.value x) : Sem Next).run P w → q = .ok (.value cx) w) := by
  unfold nilCheckB at h
  split at h
  · exact ⟨did_ok hM h hx, by cases hx; rintro q rfl; rfl⟩
  · exact ⟨did_ok hM h hx, by cases hx; rintro q rfl; rfl⟩
  · cases h

theorem fieldB_did (hM : RM w0 g M n w) {t : TypeId} {f : Nat} {x : V} {cx : Value} (hx : Rep g x cx) (h : fieldB P M n t f x K = some r) : DidS w0 g M n w K r ((Instr.fieldAt t cx f).run P w) := by
  unfold fieldB at h
  split at h
  · replace h := ob_some h; obtain ⟨o, ho, h⟩ := h
    cases hx with | ptr hg =>
      rw [Ev.fieldAt_run ho, Nat.add_assoc]
      exact did_ok hM h (.ptr hg)
  · cases h

theorem natOf {i : Nat} : (Int.ofNat i).toNat = i := rfl
theorem indexAddrB_did (hM : RM w0 g M n w) {t : TypeId} {x i : V} {cx ci : Value} (hx : Rep g x cx) (hi : Rep g i ci) (h : indexAddrB P M n t x i K = some r) : DidS w0 g M n w K r ((Instr.indexAt t cx ci).run P w) := by
  unfold indexAddrB at h
  split at h
  · rename_i e id off z len lim k i hk
    replace h := bb_some h; obtain ⟨hb, h⟩ := h
    simp only [Bool.and_eq_true, Nat.beq_eq, Nat.blt_eq] at hb
    obtain ⟨h1, h2⟩ := hb
    cases hi
    cases hx with | @sl _ _ _ _ cap _ x p hg he hl hp hc =>
      have hp := hp (by omega)
      subst hp h2
      rw [Ev.indexAt_run (kind_slice hk) (by exact Int.natCast_nonneg i) (by exact Int.ofNat_lt.2 h1) (szT_info he), addr_add, natOf, Nat.add_assoc]
      exact did_ok hM h (.ptr hg)
  · rename_i len e id off k i hk
    replace h := bb_some h; obtain ⟨hb, h⟩ := h
    simp only [Bool.and_eq_true, Nat.blt_eq] at hb
    obtain ⟨⟨h1, h2⟩, h3⟩ := hb
    have hu := kind_array hk
    obtain ⟨q, hq⟩ := szT_info h3
    cases hi
    cases hx with | ptr hg =>
      rename_i x
      have : (Instr.indexAt t (.pointer (some ⟨x.blk, x.base + off, none⟩)) (.int k (Int.ofNat i))).run P w = .ok (.pointer (some ⟨x.blk, x.base + (off + i * szT P e), none⟩)) w := by
        have h4 : ¬ (len ≤ 1) := by omega
        have h5 : (0 : Int) ≤ Int.ofNat i := Int.natCast_nonneg i
        have h6 : Int.ofNat i < (len : Int) := Int.ofNat_lt.2 h1
        simp [Instr.indexAt, asIntOf, run_underlying hu, Instr.sureAddr, h5, h6, run_sizeOf hq, szT, hq, addr_add, h1, Nat.add_assoc]
      rw [this]
      exact did_ok hM h (.ptr hg)
  · cases h

theorem natsOf_get {s : ByteArray} {i c : Nat} (h : (natsOf s)[i]? = some c) : i < s.size ∧ s[i]? = some (s.data.toList.getD i 0) ∧ (s.data.toList.getD i 0).toNat = c := by
  have hi : i < s.size := by rw [← natsOf_length]; exact (List.getElem?_eq_some_iff.1 h).1
  refine ⟨hi, Ev.bytes_get s i hi, ?_⟩
  unfold natsOf at h
  rw [List.getElem?_map] at h
  obtain ⟨b, hb, rfl⟩ := Option.map_eq_some_iff.1 h
  rw [List.getD_eq_getElem?_getD, hb]; rfl
theorem indexB_did (hM : RM w0 g M n w) {t : TypeId} {x i : V} {cx ci : Value} (hx : Rep g x cx) (hi : Rep g i ci) (h : indexB P M n t x i K = some r) : DidS w0 g M n w K r ((Instr.index t cx ci).run P w) := by
  unfold indexB at h
  split at h
  · rename_i l k i hk
    cases hi
    cases hx with | str e hs =>
      rename_i s
      subst e
      replace h := ob_some h; obtain ⟨c, hc, h⟩ := h
      obtain ⟨h1, h2, h3⟩ := natsOf_get hc
      have : (Instr.index t (.string s) (.int k (Int.ofNat i))).run P w = .ok (.int .u8 (Int.ofNat c)) w := by
        have h0 : (0 : Int) ≤ Int.ofNat i := Int.natCast_nonneg i
        simp only [Instr.index, asIntOf, Sem.run_bind, Sem.run_pure, Result.andThen_ok, run_underlying (kind_str hk), if_pos h0, natOf, h2, h3]
        rfl
      exact this ▸ did_ok hM h (.int _ _)
  · cases h

theorem bnd_run {x : Option Operand} {d i : Nat} (hF : EvR g F a x.toList) (h : bnd F x d = some i) : (x = none ∧ i = d) ∨ ∃ y k, x = some y ∧ a.eval y = .int k (Int.ofNat i) := by
  unfold bnd at h
  split at h
  · injection h with h; exact .inl ⟨rfl, h.symm⟩
  · rename_i y
    split at h
    · rename_i k j hy
      injection h with h; subst h
      have := hF y (by simp) _ hy
      exact .inr ⟨y, k, rfl, by generalize a.eval y = cy at this; cases this; rfl⟩
    · cases h
theorem optB_run {x : Option Operand} {d y i : Nat} {c : BoundsCode} (hF : EvR g F a x.toList) (h : bnd F x d = some i) (h1 : i ≤ y) :
    (match x.map a.eval with | some v => Instr.sliceBound v y c | none => pure d : Sem Nat).run P w = .ok i w := by
  rcases bnd_run hF h with ⟨rfl, rfl⟩ | ⟨z, k, rfl, hz⟩
  · simp
  · have := Ev.sliceBound_run (P := P) (w := w) (k := k) (i := Int.ofNat i) (y := y) (c := c) (Int.natCast_nonneg i) (by exact Int.ofNat_le.2 h1)
    simp only [Option.map_some, hz]
    exact this
theorem bounds_run {lo hi : Option Operand} {l h len cap : Nat} {sl : Bool} (hF : EvR g F a (lo.toList ++ hi.toList)) (hl : bnd F lo 0 = some l) (hh : bnd F hi len = some h) (h1 : l ≤ h) (h2 : h ≤ cap) :
    (Instr.sliceBounds sl len cap (lo.map a.eval) (hi.map a.eval) none).run P w = .ok (l, h, cap) w := by
  have e2 := fun c => optB_run (P := P) (w := w) (c := c) (hF.sub fun y hy => by simp [hy]) hh h2
  have e3 := fun c => optB_run (P := P) (w := w) (c := c) (y := h) (hF.sub fun y hy => by simp [hy]) hl h1
  cases hi <;> cases lo <;> simp only [Option.map_none, Option.map_some] at e2 e3 ⊢ <;> simp [Instr.sliceBounds, e2, e3] <;> simp at e2 e3 <;> simp [e2, e3]
theorem bounds3_run {hi mx : Operand} {lo' : Option Operand} {l h q len cap d : Nat} (hF : EvR g F a (lo'.toList ++ [hi, mx])) (hl : bnd F lo' 0 = some l) (hh : bnd F (some hi) len = some h) (hm : bnd F (some mx) d = some q) (h1 : l ≤ h) (h2 : h ≤ q) (h3 : q ≤ cap) :
    (Instr.sliceBounds true len cap (lo'.map a.eval) (some (a.eval hi)) (some (a.eval mx))).run P w = .ok (l, h, q) w := by
  have e1 := fun c => optB_run (P := P) (w := w) (c := c) (hF.sub fun y hy => by simp at hy; simp [hy]) hm h3
  have e2 := fun c => optB_run (P := P) (w := w) (c := c) (y := q) (hF.sub fun y hy => by simp at hy; simp [hy]) hh h2
  have e3 := fun c => optB_run (P := P) (w := w) (c := c) (y := h) (hF.sub fun y hy => by simp at hy; simp [hy]) hl h1
  cases lo' <;> simp only [Option.map_none, Option.map_some] at e1 e2 e3 ⊢ <;> simp [Instr.sliceBounds, e1, e2, e3] <;> simp at e3 <;> simp [e3]

theorem natsOf_extract (s : ByteArray) (l h : Nat) : natsOf (s.extract l h) = ((natsOf s).drop l).take (h - l) := by
  unfold natsOf
  rw [ByteArray.data_extract, Array.toList_extract, List.extract_eq_take_drop, List.map_take, List.map_drop]

theorem capK_some' (hM : RM w0 g M n w) {id off e : Nat} {lim : Option Nat} {x : Lc} {cap : Nat} {K : Nat → Bool → Option A} (hg : g id = some x) (he : 0 < e) (hc : capIs x off e cap lim) (h : capK M id off e lim K = some r) :
    ∃ c ex, K c ex = some r ∧ c ≤ cap ∧ (ex = true → lim = none → ∃ k c', M.get id = some (.cells k true c')) ∧ (∀ c', lim = some c' → c = c' ∧ ex = true) ∧ (ex = true → c = cap) ∧ (ex = false → lim = none ∧ ∃ k c', M.get id = some (.cells k false c')) := by
  unfold capK at h
  split at h
  · rename_i c
    obtain ⟨hc1, hc2⟩ := hc
    exact ⟨c, true, h, by omega, (fun _ h' => nomatch h'), (fun c' h' => ⟨Option.some.inj h', rfl⟩), (fun _ => by omega), (fun h' => nomatch h')⟩
  · replace h := cellsAt_some h; obtain ⟨k, ex, c, hk, h⟩ := h
    obtain ⟨y, hy, cs, ty, fr, g1, g2, g3, g4, g5, g6⟩ := hM.rep id _ hk
    obtain rfl : x = y := by rw [hg] at hy; injection hy
    have hc : x.base + off + cap * e = x.size := hc
    have hle : (k - off) / e ≤ cap := by
      have h1 : k - off ≤ cap * e := by omega
      have := Nat.div_le_div_right (c := e) h1
      rwa [Nat.mul_div_cancel _ he] at this
    refine ⟨_, ex, h, hle, fun h _ => ⟨k, c, by rw [← h]; exact hk⟩, by simp, fun hex => ?_, fun hex => ⟨rfl, k, c, by rw [← hex]; exact hk⟩⟩
    have := g5 hex
    show (k - off) / e = cap
    rw [show k - off = cap * e by omega, Nat.mul_div_cancel _ he]

theorem sliceB_did (hM : RM w0 g M n w) {t : TypeId} {lo hi mx : Option Operand} {x : V} (hF : EvR g F a (lo.toList ++ hi.toList ++ mx.toList)) {cx : Value} (hx : Rep g x cx) (h : sliceB P F M n t x lo hi mx K = some r) :
    DidS w0 g M n w K r ((Instr.sliceAt t cx (lo.map a.eval) (hi.map a.eval) (mx.map a.eval)).run P w) := by
  unfold sliceB at h
  split at h
  · rename_i s hk
    cases hx with | str e hs =>
      rename_i s
      subst e
      replace h := ob_some h; obtain ⟨l, hl, h⟩ := h
      replace h := ob_some h; obtain ⟨q, hq, h⟩ := h
      replace h := bb_some h; obtain ⟨hb, h⟩ := h
      simp only [Bool.and_eq_true, Option.isNone_iff_eq_none] at hb
      obtain ⟨⟨rfl, h1⟩, h2⟩ := hb
      have h1 := Nat.le_of_ble_eq_true h1
      have h2 := Nat.le_of_ble_eq_true h2
      rw [natsOf_length] at h2 hq
      rw [Ev.sliceAt_str (kind_str hk)]
      have := bounds_run (P := P) (w := w) (sl := false) (cap := s.size) (hF.sub fun y hy => List.mem_append_left _ hy) hl hq h1 h2
      simp only [Instr.slice, Sem.run_bind, run_underlying (kind_str hk), Result.andThen_ok, Option.map_none, Option.isSome_none, Bool.false_eq_true, if_false, this, Sem.run_pure]
      exact did_ok hM h (.str (natsOf_extract s l q).symm (Nat.le_trans (Ev.extract_size _ _ _ h1 h2) hs))
  · rename_i b1 b2 hk
    cases hx with | @anys _ _ s h1 h2 hs =>
      replace h := ob_some h; obtain ⟨l, hl, h⟩ := h
      have key : ∀ q, bnd F hi s.size = some q → mx = none → l ≤ q → q ≤ s.size → (∀ c d, c ≤ q - l → q - l ≤ d → K (.anys c d) M n = some r → DidS w0 g M n w K r ((Instr.sliceAt t (.string s) (lo.map a.eval) (hi.map a.eval) (mx.map a.eval)).run P w)) := fun q hq hmx h3 h4 c d hc hd hK => by
        subst hmx
        rw [Ev.sliceAt_str (kind_str hk)]
        have := bounds_run (P := P) (w := w) (sl := false) (cap := s.size) (hF.sub fun y hy => List.mem_append_left _ hy) hl hq h3 h4
        simp only [Instr.slice, Sem.run_bind, run_underlying (kind_str hk), Result.andThen_ok, Option.map_none, Option.isSome_none, Bool.false_eq_true, if_false, this, Sem.run_pure]
        have hsz : (s.extract l q).size = q - l := by rw [ByteArray.size_extract]; omega
        exact did_ok hM hK (.anys (by rw [hsz]; exact hc) (by rw [hsz]; exact hd) (Nat.le_trans (Ev.extract_size _ _ _ h3 h4) hs))
      split at h
      · rename_i ho
        replace h := ob_some h; obtain ⟨q, hq, h⟩ := h
        replace h := bb_some h; obtain ⟨hb, h⟩ := h
        simp only [Bool.and_eq_true, Option.isNone_iff_eq_none] at hb
        obtain ⟨⟨hmx, h3⟩, h4⟩ := hb
        have h3 := Nat.le_of_ble_eq_true h3
        have h4 := Nat.le_of_ble_eq_true h4
        exact key q (by unfold bnd at hq ⊢; exact hq) hmx h3 (by omega) _ _ (Nat.le_refl _) (Nat.le_refl _) h
      · replace h := bb_some h; obtain ⟨hb, h⟩ := h
        simp only [Bool.and_eq_true, Option.isNone_iff_eq_none] at hb
        obtain ⟨hmx, h3⟩ := hb
        have h3 := Nat.le_of_ble_eq_true h3
        exact key s.size rfl hmx (by omega) (Nat.le_refl _) _ _ (by omega) (by omega) h
  · rename_i e hk
    replace h := ob_some h; obtain ⟨l, hl, h⟩ := h
    replace h := ob_some h; obtain ⟨q, hq, h⟩ := h
    replace h := ob_some h; obtain ⟨z, hz, h⟩ := h
    replace h := bb_some h; obtain ⟨hb, h⟩ := h
    simp only [Bool.and_eq_true, Nat.beq_eq, Nat.blt_eq] at hb
    obtain ⟨⟨⟨⟨rfl, rfl⟩, rfl⟩, h3⟩, h4⟩ := hb
    have hu := kind_slice hk
    obtain ⟨i, hi'⟩ := szT_info h4
    cases hx
    rw [Ev.sliceAt_slice hu]
    cases mx with
    | none =>
      have := bounds_run (P := P) (w := w) (sl := true) (cap := 0) (hF.sub fun y hy => List.mem_append_left _ hy) hl hq (Nat.le_refl _) (Nat.le_refl _)
      simp only [Instr.slice, Sem.run_bind, run_underlying hu, Result.andThen_ok, Option.map_none, this, run_sizeOf hi', Sem.run_pure]
      simp only [Nat.sub_self, if_true]
      exact did_ok hM h .nils
    | some mx =>
      cases hi with
      | none => simp at h3
      | some hi =>
        have := bounds3_run (P := P) (w := w) (cap := 0) (hF.sub fun y hy => by simpa [or_assoc] using hy) hl hq hz (Nat.le_refl _) (Nat.le_refl _) (Nat.le_refl _)
        simp only [Instr.slice, Sem.run_bind, run_underlying hu, Result.andThen_ok, Option.map_some, this, run_sizeOf hi', Sem.run_pure]
        simp only [Nat.sub_self, if_true]
        exact did_ok hM h .nils
  · rename_i e id off z len lim hk
    replace h := ob_some h; obtain ⟨l, hl, h⟩ := h
    replace h := ob_some h; obtain ⟨q, hq, h⟩ := h
    cases hx with | @sl _ _ _ _ cap _ x p hg he hle hp hc =>
      replace h := capK_some' hM hg he hc h
      obtain ⟨c, ex, h, hcc, hc1, hc2, hc3, hc4⟩ := h
      replace h := ob_some h; obtain ⟨y, hy, h⟩ := h
      replace h := bb_some h; obtain ⟨hb, h⟩ := h
      simp only [Bool.and_eq_true, Nat.beq_eq, Nat.blt_eq] at hb
      obtain ⟨⟨⟨⟨⟨hz, hpos⟩, h1⟩, h2⟩, h3⟩, h4⟩ := hb
      have h1 := Nat.le_of_ble_eq_true h1
      have h2 := Nat.le_of_ble_eq_true h2
      have h3 := Nat.le_of_ble_eq_true h3
      have hu := kind_slice hk
      subst hz
      obtain ⟨i, hi'⟩ := szT_info hpos
      have his : i.size = szT P e := by simp [szT, hi']
      rw [Ev.sliceAt_slice hu]
      -- what the cut is
      have key : ∀ (M' : Nat), q ≤ M' → M' ≤ cap → (∀ lim', lim' = (limOf mx y l lim) → capIs x (off + l * szT P e) (szT P e) (M' - l) lim') →
          Rep g (.sl id (off + l * szT P e) (szT P e) (q - l) (limOf mx y l lim)) (.slice (if M' = l then some p else (some p).map (·.add (l * szT P e))) (q - l) (M' - l)) := fun M' hM1 hM2 hcap => by
        by_cases hl' : M' = l
        · rw [if_pos hl']
          exact .sl hg he (by omega) (fun h0 => by omega) (hcap _ rfl)
        · rw [if_neg hl']
          have hp := hp (by omega)
          subst hp
          simp only [Option.map_some, addr_add, Nat.add_assoc]
          exact .sl hg he (by omega) (fun _ => rfl) (hcap _ rfl)
      have hmul : l * szT P e + (cap - l) * szT P e = cap * szT P e := by rw [← Nat.add_mul]; congr 1; omega
      cases mx with
      | none =>
        have := bounds_run (P := P) (w := w) (sl := true) (cap := cap) (hF.sub fun y hy => List.mem_append_left _ hy) hl hq h1 (by omega)
        simp only [Instr.slice, Sem.run_bind, run_underlying hu, Result.andThen_ok, Option.map_none, this, run_sizeOf hi', his, Sem.run_pure]
        refine did_ok hM h (key cap (by omega) (Nat.le_refl _) ?_)
        rintro lim' rfl
        cases lim with
        | none =>
          have hc : x.base + off + cap * szT P e = x.size := hc
          show x.base + (off + l * szT P e) + (cap - l) * szT P e = x.size
          omega
        | some c' =>
          obtain ⟨hc', hc''⟩ : cap = c' ∧ x.base + off + cap * szT P e ≤ x.size := hc
          exact ⟨by rw [hc'], by omega⟩
      | some mx =>
        cases hi with
        | none => simp at h4
        | some hi =>
          have := bounds3_run (P := P) (w := w) (cap := cap) (hF.sub fun y hy => by simpa [or_assoc] using hy) hl hq hy h1 h2 (by omega)
          simp only [Instr.slice, Sem.run_bind, run_underlying hu, Result.andThen_ok, Option.map_some, this, run_sizeOf hi', his, Sem.run_pure]
          refine did_ok hM h (key y h2 (by omega) ?_)
          rintro lim' rfl
          have hle' : x.base + off + cap * szT P e ≤ x.size := by
            cases lim with
            | none => exact Nat.le_of_eq hc
            | some c' => exact hc.2
          have : (y - l) * szT P e ≤ (cap - l) * szT P e := Nat.mul_le_mul_right _ (by omega)
          exact ⟨rfl, by omega⟩
  · cases h

theorem lenB_did (hM : RM w0 g M n w) {t ty : TypeId} {x : V} {cx : Value} (hx : Rep g x cx) (h : lenB P M n t x K = some r) :
    DidS w0 g M n w K r ((Builtin.len_ #[t] ty #[cx]).run P w) := by
  unfold lenB at h
  split at h
  · rename_i l hk
    cases hx with | str e hs =>
      rename_i s
      subst e
      rw [kN_eq, natsOf_length] at h
      exact (show (Builtin.len_ #[t] ty #[.string s]).run P w = .ok (.int .i64 s.size) w by simp [Builtin.len_, run_underlying (kind_str hk), goInt]) ▸ did_ok hM h (.int _ _)
  · rename_i hk
    cases hx with | @anys _ _ s h1 h2 hs =>
      exact (show (Builtin.len_ #[t] ty #[.string s]).run P w = .ok (.int .i64 s.size) w by simp [Builtin.len_, run_underlying (kind_str hk), goInt]) ▸ did_ok hM h (.rng (Int.ofNat_le.2 h1) (Int.ofNat_le.2 h2))
  · rename_i hk
    cases hx
    rw [kN_eq] at h
    exact (show (Builtin.len_ #[t] ty #[.slice none 0 0]).run P w = .ok (.int .i64 ((0 : Nat) : Int)) w by simp [Builtin.len_, run_underlying (kind_slice hk), goInt]) ▸ did_ok hM h (.int _ _)
  · rename_i hk
    rw [kN_eq] at h
    cases hx with | @sl _ _ _ _ cap _ x p hg he hle hp hc =>
      rename_i len _
      exact (show (Builtin.len_ #[t] ty #[.slice (some p) len cap]).run P w = .ok (.int .i64 (len : Int)) w by simp [Builtin.len_, run_underlying (kind_slice hk), goInt]) ▸ did_ok hM h (.int _ _)
  · rename_i hk
    cases hx
    rw [kN_eq] at h
    exact (show (Builtin.len_ #[t] ty #[.map none]).run P w = .ok (.int .i64 ((0 : Nat) : Int)) w by simp [Builtin.len_, run_underlying (kind_map hk), goInt]) ▸ did_ok hM h (.int _ _)
  · rename_i hk
    replace h := mapAt_some h; obtain ⟨es, c, hid, h⟩ := h
    rw [kN_eq] at h
    cases hx with | @mp _ x hg =>
      obtain ⟨y, hy, ces, h1, h2⟩ := hM.rep _ _ hid
      obtain rfl : x = y := by rw [hg] at hy; injection hy
      have hl : es.length = ces.size := by have := h2.length; rwa [Array.length_toList (xs := ces)] at this
      exact (show (Builtin.len_ #[t] ty #[.map (some x.blk)]).run P w = .ok (.int .i64 (es.length : Int)) w by simp [Builtin.len_, run_underlying (kind_map hk), goInt, MapKept.run_getObj_map h1, hl]) ▸ did_ok hM h (.int _ _)
  · rename_i q e hk
    rw [kN_eq] at h
    exact (show (Builtin.len_ #[t] ty #[cx]).run P w = .ok (.int .i64 (q : Int)) w by simp [Builtin.len_, run_underlying (kind_array hk), goInt]) ▸ did_ok hM h (.int _ _)
  · cases h

theorem minmaxB_did (hM : RM w0 g M n w) {mx : Bool} {ts : Array TypeId} {ty : TypeId} {x y : V} {cx cy : Value} (hx : Rep g x cx) (hy : Rep g y cy) (h : minmaxB mx x y M n K = some r) :
    DidS w0 g M n w K r ((if mx then Builtin.max_ ts ty #[cx, cy] else Builtin.min_ ts ty #[cx, cy] : Sem Value).run P w) := by
  unfold minmaxB at h
  split at h
  · rename_i k p k' q
    replace h := bb_some h; obtain ⟨e, h2⟩ := h
    obtain rfl : _ = _ := of_decide_eq_true e
    cases hx; cases hy
    cases mx
    · have : (Builtin.min_ ts ty #[.int k p, .int k q]).run P w = .ok (.int k (if q < p then q else p)) w := by
        simp [Builtin.min_, Builtin.min2]
      simp only [Bool.false_eq_true, if_false] at h2 ⊢
      rw [this]
      refine did_ok hM h2 ?_
      rw [leI_eq]
      by_cases hpq : p ≤ q
      · rw [if_neg (by omega)]; simp only [hpq, decide_true]; exact .int _ _
      · rw [if_pos (by omega)]; simp only [hpq, decide_false]; exact .int _ _
    · have : (Builtin.max_ ts ty #[.int k p, .int k q]).run P w = .ok (.int k (if q > p then q else p)) w := by
        simp [Builtin.max_, Builtin.max2]
      simp only [if_true] at h2 ⊢
      rw [this]
      refine did_ok hM h2 ?_
      rw [leI_eq]
      by_cases hpq : q ≤ p
      · rw [if_neg (by omega)]; simp only [hpq, decide_true]; exact .int _ _
      · rw [if_pos (by omega)]; simp only [hpq, decide_false]; exact .int _ _
  · cases h
end Go.Eb
