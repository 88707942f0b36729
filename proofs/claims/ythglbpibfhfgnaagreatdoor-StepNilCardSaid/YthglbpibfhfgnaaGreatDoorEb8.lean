/-
The closed evaluator: make; literals; conversions.
-/
import Derived.Test.YthglbpibfhfgnaaGreatDoorEb7
import Derived.Laws.IdiomStrings
set_option linter.unusedVariables false
set_option linter.unusedSimpArgs false
namespace Go.Eb
open Go.Ev (szT byT aggO offT fszT TK kindT elemK zok LK leavesT openB kind_slice kind_array kind_str kind_int run_sizeOf szT_info addr_add At zok_is)
variable {A : Type} {P : Program} {w0 : World} {g : Env} {F : Fr} {M : Mm} {n m : Nat} {a : Act} {w : World} {K : V → Mm → Nat → Option A} {r : A}

theorem elem_und {t e : TypeId} (hk : elemK (kindT P t) = some e) : P.underlying t = some (.slice e) := by
  unfold elemK at hk
  split at hk
  · rename_i e' h'; injection hk with hk; subst hk; exact kind_slice h'
  · cases hk

theorem makeSliceB_did (hM : RM w0 g M n w) {t e : TypeId} {l c : V} {cl cc : Value} (hk : elemK (kindT P t) = some e) (hl : Rep g l cl) (hc : Rep g c cc) (h : makeSliceB P M n e l c K = some r) : Did w0 g M w K r ((Instr.makeSlice t cl cc).run P w) := by
  have ht := elem_und hk
  unfold makeSliceB at h
  split at h
  · rename_i kl l kc c
    replace h := bb_some h; obtain ⟨hb, h⟩ := h
    simp only [Bool.and_eq_true] at hb
    obtain ⟨⟨⟨hzk, h1⟩, h2⟩, h3⟩ := hb
    have h1 := Nat.le_of_ble_eq_true h1
    have h2 := Nat.le_of_ble_eq_true h2
    have h3 := Nat.le_of_ble_eq_true h3
    replace h := ob_some h; obtain ⟨zv, hzv, h⟩ := h
    replace h := ob_some h; obtain ⟨zs, hzs, h⟩ := h
    replace h := newCells_some h; obtain ⟨cc', hcc, h⟩ := h
    obtain ⟨i, z, hi, hz, hzsz, hipos, hisz, hiby⟩ := zok_is hzk
    obtain ⟨i', z', hi', hz', hrz⟩ := zeroV_rep (P := P) (g := g) hzv
    obtain rfl : i = i' := by rw [hi] at hi'; injection hi'
    obtain rfl : z = z' := by rw [hz] at hz'; injection hz'
    obtain ⟨hr, h1c⟩ := cellsO_rep hzs hrz
    have hzl : zs.length = z.cells.size := by rw [hr.length]; exact Array.length_toList
    cases hl; cases hc
    have hrun := run_make (P := P) w t e i z ht hi hz kl kc (Int.ofNat l) (Int.ofNat c) (Int.natCast_nonneg l) (Int.ofNat_le.2 h1) (by
      have : ((c * i.bytes : Nat) : Int) ≤ 281474976710656 := by rw [hiby]; omega
      rw [Nat.mul_comm] at this
      simpa using this) (by show (c : Int) ≤ _; omega)
    rw [hrun]
    simp only [natOf]
    have hzr := zeros_rep hr c (by omega)
    rw [hzsz] at hzr
    obtain ⟨g2, g3⟩ := cells_alloc (w1 := w) (ex := true) (vs := (List.replicate c zs).flatten) (c := cc') (cells := madeCells z.cells (c * i.size)) (ty := e) hM rfl rfl rfl rfl hzr (zeros_ones h1c c) hcc
      (fun j u hj => by rw [Array.getElem?_toList] at hj; unfold madeCells; rw [hzsz]; exact hj) (by rw [size_madeCells, flat_rep_len, hzl, hzsz]; exact Nat.le_refl _) (fun _ => by rw [size_madeCells, flat_rep_len, hzl, hzsz])
    refine ⟨_, _, _, _, _, _, h, rfl, ?_, g2, g3⟩
    exact .sl (x := ⟨w.heap.size, 0, _⟩) updG_new (by omega) h1 (fun _ => rfl) (by show 0 + 0 + c * szT P e = _; dsimp only; rw [size_madeCells, hisz]; omega)
  · cases h

/-! ### Literals -/
/-- A trie of cells and the cells. -/
def Cells (g : Env) (c : T V) (cells : List Value) : Prop := ∀ j u, c.get j = some u → c1 u = true ∧ ∃ cv, cells[j]? = some cv ∧ Rep g u cv
theorem fillK_some {place : Nat → Option (Nat × Nat)} {place' : Nat → Option (Nat × Nat)} (hpl : ∀ f q, place f = some q → place' f = some q) : ∀ {ps : List (Nat × Operand)} {q : Nat} {c : T V} {K : T V → Option A} {cells : Array Value}, EvR g F a (ps.map (·.2)) →
    fillK F place q c ps K = some r → Cells g c cells.toList → cells.size = q →
    ∃ c' cells', K c' = some r ∧ Instr.fill place' cells (ps.map fun p => (p.1, a.eval p.2)) = some cells' ∧ Cells g c' cells'.toList ∧ cells'.size = q
  | [], q, c, K, cells, hF, h, hc, hq => ⟨c, cells, h, rfl, hc, hq⟩
  | p :: ps, q, c, K, cells, hF, h, hc, hq => by
    have h : ob (opnd F p.2) (fun v => ob (cellsO v) fun vs => ob (place p.1) fun q' => bb (Nat.beq vs.length q'.2 && Nat.ble (q'.1 + q'.2) q) (writeK c q'.1 vs fun c => fillK F place q c ps K)) = some r := h
    replace h := ob_some h; obtain ⟨v, hv, h⟩ := h
    replace h := ob_some h; obtain ⟨vs, hvs, h⟩ := h
    replace h := ob_some h; obtain ⟨⟨off, size⟩, hpl', h⟩ := h
    replace h := bb_some h; obtain ⟨hb, h⟩ := h
    simp only [Bool.and_eq_true, Nat.beq_eq] at hb
    obtain ⟨hb1, hb2⟩ := hb
    have hb2 := Nat.le_of_ble_eq_true hb2
    dsimp only at hb1 hb2 h
    replace h := writeK_some h; obtain ⟨c', hc', h⟩ := h
    obtain ⟨hr, h1⟩ := cellsO_rep hvs (hF p.2 (by simp) _ hv)
    have hlen : vs.length = (a.eval p.2).cells.size := by rw [hr.length]; exact Array.length_toList
    have hfo := Ev.fill_one (rest := ps.map fun p => (p.1, a.eval p.2)) (cells := cells) (v := a.eval p.2) (hpl _ _ hpl') (by omega) (by omega)
    have hpre : (cells.toList.take off).length = off := by rw [List.length_take, Array.length_toList]; omega
    have hcl : ((a.eval p.2).cells.toList).length = size := by rw [Array.length_toList]; omega
    obtain ⟨c2, cells2, h2, h3, h4, h5⟩ := fillK_some hpl (cells := (cells.toList.take off ++ ((a.eval p.2).cells.toList ++ cells.toList.drop (off + size))).toArray) (hF.sub fun y hy => by rw [List.map_cons]; exact List.mem_cons_of_mem _ hy) h (fun j u hj => by
      rcases hc' j u hj with ⟨g1, g2⟩ | ⟨g1, g2⟩
      · obtain ⟨cv, hcv, hr'⟩ := hr.get g2
        have hjl : j - off < vs.length := (List.getElem?_eq_some_iff.1 g2).1
        refine ⟨h1 _ (List.mem_of_getElem? g2), cv, ?_, hr'⟩
        simp only [List.toList_toArray]
        rw [List.getElem?_append_right (by omega), hpre, List.getElem?_append_left (by omega)]
        exact hcv
      · obtain ⟨g3, cv, g4, g5⟩ := hc j u g2
        refine ⟨g3, cv, ?_, g5⟩
        simp only [List.toList_toArray]
        rcases g1 with g1 | g1
        · rw [List.getElem?_append_left (by omega), List.getElem?_take, if_pos g1]; exact g4
        · rw [List.getElem?_append_right (by omega), hpre, List.getElem?_append_right (by omega), List.getElem?_drop, show off + size + (j - off - ((a.eval p.2).cells.toList).length) = j by omega]; exact g4) (by
      have hd : (cells.toList.drop (off + size)).length = q - (off + size) := by rw [List.length_drop, Array.length_toList]; omega
      simp only [List.size_toArray, List.length_append, hpre, hcl, hd]; omega)
    exact ⟨c2, cells2, h2, by rw [List.map_cons, hfo]; exact h3, h4, h5⟩

theorem buildB_did (hM : RM w0 g M n w) {t : TypeId} {ps : List (Nat × Operand)} (hF : EvR g F a (ps.map (·.2))) (h : buildB P F M n t ps K = some r) : DidS w0 g M n w K r ((Instr.build t (ps.map fun p => (p.1, a.eval p.2)).toArray).run P w) := by
  unfold buildB at h
  replace h := ob_some h; obtain ⟨z, hz, h⟩ := h
  split at h
  · rename_i zs
    replace h := bb_some h; obtain ⟨hfo, h⟩ := h
    replace h := writeK_some h; obtain ⟨c, hc, h⟩ := h
    obtain ⟨i, zv, hi, hzi, hrz⟩ := zeroV_rep (P := P) (g := g) hz
    unfold Ev.fieldsOk at hfo
    split at hfo
    · rename_i fds hu
      cases hrz with | @agg _ zvs hrz h1 =>
        have hzl : zs.length = zvs.size := by rw [hrz.length]; exact Array.length_toList
        have hpl : ∀ f q, placeS P t f = some q → (fds.map fun f => (f.offset, szT P f.type))[f]? = some q := fun f q hq => by
          unfold placeS at hq
          split at hq
          · rename_i o ho
            injection hq with hq; subst hq
            obtain ⟨fs', x, hu', hx, hxo, hfs, hpos⟩ := Ev.offT_is ho
            obtain rfl : fs' = fds := by rw [hu] at hu'; injection hu' with h; injection h with h; exact h.symm
            simp [hx, hxo, hfs]
          · cases hq
        obtain ⟨c', cells', h2, h3, h4, h5⟩ := fillK_some hpl (cells := zvs) hF h (fun j u hj => by
          rcases hc j u hj with ⟨_, g2⟩ | ⟨_, g2⟩
          · rw [Nat.sub_zero] at g2
            obtain ⟨cv, hcv, hr'⟩ := hrz.get g2
            exact ⟨h1 _ (List.mem_of_getElem? g2), cv, hcv, hr'⟩
          · simp [T.get_e] at g2) hzl.symm
        obtain ⟨vs, hl, hg, h⟩ := readK_some h2
        have hplr := Ev.places_run (P := P) w fds.toList fun x hx => by
          have := List.all_eq_true.1 hfo x hx
          exact Option.isSome_iff_exists.1 this
        have hm : (fds.mapM (fun f => do pure (f.offset, ← sizeOf f.type)) : Sem (Array (Nat × Nat))).run P w = .ok (fds.map fun f => (f.offset, szT P f.type)) w := by
          rw [Array.mapM_eq_mapM_toList, Sem.run_map, hplr]
          simp only [Result.andThen_ok]
          congr 1
          apply Array.ext'
          simp
        have hrun : (Instr.build t (ps.map fun p => (p.1, a.eval p.2)).toArray).run P w = .ok (.agg cells') w := by
          simp only [Instr.build, Sem.run_bind, zeroValue, typeInfo, run_program, hi, Result.andThen_ok, Sem.run_pure, hzi, run_underlying hu, hm, Value.cells, List.toList_toArray, h3]
        rw [hrun]
        refine did_ok hM h (.agg (RepL.of_get (by rw [hl, ← h5]; exact Array.length_toList.symm) fun j v hv => ?_) fun v hv => ?_)
        · have := hg j v hv
          rw [Nat.zero_add] at this
          exact (h4 j v this).2
        · obtain ⟨j, hj⟩ := List.getElem?_of_mem hv
          have := hg j v hj
          rw [Nat.zero_add] at this
          exact (h4 j v this).1
    · cases hfo
  · cases h

theorem buildSliceB_did (hM : RM w0 g M n w) {t : TypeId} {len : Nat} {ps : List (Nat × Operand)} (hF : EvR g F a (ps.map (·.2))) (h : buildSliceB P F M n t len ps K = some r) :
    Did w0 g M w K r ((Instr.buildSlice t len (ps.map fun p => (p.1, a.eval p.2)).toArray).run P w) := by
  unfold buildSliceB at h
  split at h
  · rename_i e hk
    have hu := kind_slice hk
    replace h := bb_some h; obtain ⟨hb, h⟩ := h
    rw [Bool.and_eq_true] at hb
    obtain ⟨hzk, hb⟩ := hb
    have hb := Nat.le_of_ble_eq_true hb
    replace h := ob_some h; obtain ⟨zv, hzv, h⟩ := h
    replace h := ob_some h; obtain ⟨zs, hzs, h⟩ := h
    replace h := writeK_some h; obtain ⟨c, hc, h⟩ := h
    obtain ⟨i, z, hi, hz, hzsz, hipos, hisz, hiby⟩ := zok_is hzk
    obtain ⟨i', z', hi', hz', hrz⟩ := zeroV_rep (P := P) (g := g) hzv
    obtain rfl : i = i' := by rw [hi] at hi'; injection hi'
    obtain rfl : z = z' := by rw [hz] at hz'; injection hz'
    obtain ⟨hr, h1⟩ := cellsO_rep hzs hrz
    have hzl : zs.length = z.cells.size := by rw [hr.length]; exact Array.length_toList
    have hzr := zeros_rep hr len (by omega)
    have hsz : szT P e = z.cells.size := by rw [hzsz, hisz]
    obtain ⟨c', cells', h2, h3, h4, h5⟩ := fillK_some (place := placeR (szT P e)) (place' := fun i => some (i * szT P e, szT P e)) (fun f q hq => hq) (cells := (Array.range (len * z.cells.size)).map (z.cells[· % z.cells.size]!)) hF h (fun j u hj => by
      rcases hc j u hj with ⟨_, g2⟩ | ⟨_, g2⟩
      · rw [Nat.sub_zero] at g2
        obtain ⟨cv, hcv, hr'⟩ := hzr.get g2
        exact ⟨zeros_ones h1 len _ (List.mem_of_getElem? g2), cv, hcv, hr'⟩
      · simp [T.get_e] at g2) (by simp [hsz])
    rw [newB_eq] at h2
    have hnb : ¬ (len * szT P e > 2 ^ 24) := by omega
    have hrun : (Instr.buildSlice t len (ps.map fun p => (p.1, a.eval p.2)).toArray).run P w = .ok (.slice (some ⟨w.heap.size, 0, none⟩) len len) (w.alloc (.cells cells' e)) := by
      simp only [Instr.buildSlice, Sem.run_bind, run_underlying hu, Result.andThen_ok, run_sizeOf hi, hisz, if_neg hnb, Sem.run_ite]
      by_cases h0 : len * szT P e = 0
      · have hl0 : len = 0 := mul0 h0 (by omega)
        subst hl0
        simp only [Nat.zero_mul, if_true, Sem.run_pure, Result.andThen_ok] at h3 ⊢
        have : ((Array.range 0).map fun x => (#[] : Array Value)[x % (#[] : Array Value).size]!) = ((Array.range 0).map (z.cells[· % z.cells.size]!)) := by simp
        rw [this]
        simp only [List.toList_toArray, h3]
        simp [newRow]
      · simp only [h0, if_false, zeroValue, typeInfo, Sem.run_bind, run_program, Result.andThen_ok, hi, Sem.run_pure, hz]
        rw [hsz] at h3 ⊢
        simp only [List.toList_toArray, h3]
        simp [newRow]
    rw [hrun]
    have hx := hM.alloc (w1 := w) (.cells cells' e) rfl rfl rfl rfl (x := ⟨w.heap.size, 0, cells'.size⟩) (b := .cells (len * szT P e) true c') rfl ⟨cells', e, (0, 0), by simp, rfl, fun _ _ hk => absurd hk.2 (Nat.not_lt_zero _), by
        show 0 + len * szT P e ≤ cells'.size; omega, fun _ => by show 0 + len * szT P e = cells'.size; omega, fun j u hj => by
      obtain ⟨g1, cv, g2, g3⟩ := h4 j u hj
      have hjl : j < cells'.size := by have := (List.getElem?_eq_some_iff.1 g2).1; rwa [Array.length_toList] at this
      exact ⟨by omega, g1, cv, by rw [Nat.zero_add, ← Array.getElem?_toList]; exact g2, g3.mono (hM.sub _)⟩⟩
    refine ⟨_, _, _, _, _, _, h2, rfl, ?_, hx.1, hx.2⟩
    exact .sl (x := ⟨w.heap.size, 0, cells'.size⟩) updG_new (by omega) (Nat.le_refl _) (fun _ => rfl) (by show 0 + 0 + len * szT P e = cells'.size; omega)
  · cases h
end Go.Eb
