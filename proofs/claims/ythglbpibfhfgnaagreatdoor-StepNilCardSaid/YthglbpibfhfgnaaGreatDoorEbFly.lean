/-
The closed evaluator: new memory that is made out of order.
-/
import Derived.Test.YthglbpibfhfgnaaGreatDoorEb13
set_option linter.unusedVariables false
set_option linter.unusedSimpArgs false
namespace Go.Eb
open Go.Ev (szT byT aggO offT fszT TK kindT elemK zok LK leavesT openB kind_slice kind_array kind_str kind_int run_sizeOf szT_info zok_is parts_toArray)
variable {A : Type} {P : Program} {w0 : World} {g : Env} {F : Fr} {M : Mm} {n m : Nat} {a : Act} {w : World} {r : A} {ops : Array Oper} {ps : List Pre} {D must : Nat} {listed : Array Bool}

theorem T.get_setD_is {α : Type} : ∀ (d : Nat) (t : T α) (k j : Nat) (v : Option α), k + 2 ≤ 2 ^ d → (T.setD d t k v).get j = if j = k then v else t.get j
  | 0, t, k, j, v, h => by simp at h
  | d + 1, .e, k, j, v, h => by
    rw [Nat.pow_succ] at h
    rw [T.setD]
    by_cases hk : k = 0
    · rw [if_pos hk, T.get_n, hk]
      by_cases hj : j = 0
      · simp [hj]
      · rw [if_neg hj, if_neg hj]; split <;> rfl
    · rw [if_neg hk]
      by_cases hk1 : k % 2 = 1
      · rw [if_pos hk1, T.get_n]
        by_cases hj : j = 0
        · rw [if_pos hj, if_neg (by omega)]; rfl
        · rw [if_neg hj]
          by_cases hj1 : j % 2 = 1
          · rw [if_pos hj1, T.get_setD_is d .e _ _ _ (by omega)]
            by_cases e : j = k
            · rw [if_pos (by rw [e]), if_pos e]
            · rw [if_neg (by omega), if_neg e]; rfl
          · rw [if_neg hj1, if_neg (by omega)]; rfl
      · rw [if_neg hk1, T.get_n]
        by_cases hj : j = 0
        · rw [if_pos hj, if_neg (by omega)]; rfl
        · rw [if_neg hj]
          by_cases hj1 : j % 2 = 1
          · rw [if_pos hj1, if_neg (by omega)]; rfl
          · rw [if_neg hj1, T.get_setD_is d .e _ _ _ (by omega)]
            by_cases e : j = k
            · rw [if_pos (by rw [e]), if_pos e]
            · rw [if_neg (by omega), if_neg e]; rfl
  | d + 1, .n l u q, k, j, v, h => by
    rw [Nat.pow_succ] at h
    rw [T.setD]
    by_cases hk : k = 0
    · rw [if_pos hk, T.get_n, T.get_n, hk]
      by_cases hj : j = 0
      · simp [hj]
      · rw [if_neg hj, if_neg hj]; rw [if_neg hj]
    · rw [if_neg hk]
      by_cases hk1 : k % 2 = 1
      · rw [if_pos hk1, T.get_n, T.get_n]
        by_cases hj : j = 0
        · rw [if_pos hj, if_neg (by omega), if_pos hj]
        · rw [if_neg hj, if_neg hj]
          by_cases hj1 : j % 2 = 1
          · rw [if_pos hj1, if_pos hj1, T.get_setD_is d l _ _ _ (by omega)]
            by_cases e : j = k
            · rw [if_pos (by rw [e]), if_pos e]
            · rw [if_neg (by omega), if_neg e]
          · rw [if_neg hj1, if_neg hj1, if_neg (by omega)]
      · rw [if_neg hk1, T.get_n, T.get_n]
        by_cases hj : j = 0
        · rw [if_pos hj, if_neg (by omega), if_pos hj]
        · rw [if_neg hj, if_neg hj]
          by_cases hj1 : j % 2 = 1
          · rw [if_pos hj1, if_pos hj1, if_neg (by omega)]
          · rw [if_neg hj1, if_neg hj1, T.get_setD_is d q _ _ _ (by omega)]
            by_cases e : j = k
            · rw [if_pos (by rw [e]), if_pos e]
            · rw [if_neg (by omega), if_neg e]
theorem T.get_set_is {α : Type} {t : T α} {k j : Nat} {v : Option α} (h : k ≤ 1000000) : (t.set k v).get j = if j = k then v else t.get j :=
  T.get_setD_is 64 t k j v (Nat.le_trans (show k + 2 ≤ 1000002 by omega) (by decide))

theorem fillK_congr {F F' : Fr} {pl : Nat → Option (Nat × Nat)} {q : Nat} {K : T V → Option A} : ∀ {ps : List (Nat × Operand)} {c : T V}, (∀ x ∈ ps.map (·.2), opnd F x = opnd F' x) → fillK F pl q c ps K = fillK F' pl q c ps K
  | [], c, _ => rfl
  | p :: ps, c, h => by
    show ob (opnd F p.2) (fun v => ob (cellsO v) fun vs => ob (pl p.1) fun q' => bb (Nat.beq vs.length q'.2 && Nat.ble (q'.1 + q'.2) q) (writeK c q'.1 vs fun c => fillK F pl q c ps K)) =
      ob (opnd F' p.2) (fun v => ob (cellsO v) fun vs => ob (pl p.1) fun q' => bb (Nat.beq vs.length q'.2 && Nat.ble (q'.1 + q'.2) q) (writeK c q'.1 vs fun c => fillK F' pl q c ps K))
    rw [h p.2 (by simp)]
    have : (fun c => fillK F pl q c ps K) = fun c => fillK F' pl q c ps K := funext fun c => fillK_congr fun x hx => h x (by simp at hx ⊢; exact .inr hx)
    simp only [this]
theorem opnd_congr {F F' : Fr} {x : Operand} (h : ∀ t, x = .tmp t → F.get t = F'.get t) : opnd F x = opnd F' x := by
  cases x with
  | tmp t => exact h t rfl
  | _ => rfl
theorem fltD_congr {F F' : Fr} {id : Nat} {op : Op} (h : ∀ t, Operand.tmp t ∈ op.operands.toList → F.get t = F'.get t) : fltD P F id op = fltD P F' id op := by
  unfold fltD
  split
  · rfl
  · rename_i x
    rw [opnd_congr (F := F) (F' := F') fun t ht => h t (by simp [Op.operands, ht])]
  · rename_i t len ps
    split
    · congr 1
      funext
      congr 1
      funext z
      congr 1
      funext zs
      congr 1
      funext c
      exact fillK_congr fun x hx => opnd_congr fun t ht => h t (by simp [Op.operands]; subst ht; simpa using hx)
    · rfl
  · rfl

theorem bsl_run {K : T V → Option A} {t e : TypeId} {len : Nat} {ps : List (Nat × Operand)} (hk : kindT P t = .slice e) (hzk : zok P e = true) (hb : len * szT P e ≤ 16777216) (hF : EvR g F a (ps.map (·.2))) {zv : V} {zs : List V} (hzv : zeroV P e = some zv) (hzs : cellsO zv = some zs)
    (h : writeK .e 0 (List.replicate len zs).flatten (fun c => fillK F (placeR (szT P e)) (len * szT P e) c ps K) = some r) :
    ∃ c' cells', K c' = some r ∧ Cells g c' cells'.toList ∧ cells'.size = len * szT P e ∧ 0 < szT P e ∧ (Instr.buildSlice t len (ps.map fun p => (p.1, a.eval p.2)).toArray).run P w = .ok (.slice (some ⟨w.heap.size, 0, none⟩) len len) (w.alloc (.cells cells' e)) := by
  have hu := kind_slice hk
  replace h := writeK_some h; obtain ⟨c, hc, h⟩ := h
  obtain ⟨i, z, hi, hz, hzsz, hipos, hisz, hiby⟩ := zok_is hzk
  obtain ⟨i', z', hi', hz', hrz⟩ := zeroV_rep (P := P) (g := g) hzv
  obtain rfl : i = i' := by rw [hi] at hi'; injection hi'
  obtain rfl : z = z' := by rw [hz] at hz'; injection hz'
  obtain ⟨hr, h1⟩ := cellsO_rep hzs hrz
  have hzl : zs.length = z.cells.size := by rw [hr.length]; exact Array.length_toList
  have hzr := zeros_rep hr len (by omega)
  have hsz : szT P e = z.cells.size := by rw [hzsz, hisz]
  obtain ⟨c', cells', h2, h3, h4, h5⟩ := fillK_some (place := placeR (szT P e)) (place' := fun i => some (i * szT P e, szT P e)) (fun f q hq => hq) (cells := (Array.range (len * z.cells.size)).map (z.cells[· % z.cells.size]!)) hF h (fun j u hj => by
    rcases hc j u hj with ⟨_, g2⟩ | ⟨_, g2⟩
    · rw [Nat.sub_zero] at g2
      obtain ⟨cv, hcv, hr'⟩ := hzr.get g2
      exact ⟨zeros_ones h1 len _ (List.mem_of_getElem? g2), cv, hcv, hr'⟩
    · simp [T.get_e] at g2) (by simp [hsz])
  have hnb : ¬ (len * szT P e > 2 ^ 24) := by omega
  refine ⟨c', cells', h2, h4, h5, by omega, ?_⟩
  simp only [Instr.buildSlice, Sem.run_bind, run_underlying hu, Result.andThen_ok, run_sizeOf hi, hisz, if_neg hnb, Sem.run_ite]
  by_cases h0 : len * szT P e = 0
  · have hl0 : len = 0 := mul0 h0 (by omega)
    subst hl0
    simp only [Nat.zero_mul, if_true, Sem.run_pure, Result.andThen_ok] at h3 ⊢
    have : ((Array.range 0).map fun x => (#[] : Array Value)[x % (#[] : Array Value).size]!) = ((Array.range 0).map (z.cells[· % z.cells.size]!)) := by simp
    rw [this]
    simp only [List.toList_toArray, h3]
    simp [newRow]
  · simp only [h0, if_false, zeroValue, typeInfo, Sem.run_bind, run_program, Result.andThen_ok, hi, Sem.run_pure, hz]
    rw [hsz] at h3 ⊢
    simp only [List.toList_toArray, h3]
    simp [newRow]

/-- New memory is made. -/
theorem flt_run (hM : RM w0 g M n w) {o : Oper} (hF : EvR g F a o.op.operands.toList) {id : Nat} {v : V} {b : Blk} (h : fltD P F id o.op = some (v, b)) :
    ∃ cells ty cv, (execOp a.eval o).run P w = .ok (.value cv) (w.alloc (.cells cells ty)) ∧ ∀ g2 : Env, Sub g g2 → g2 id = some ⟨w.heap.size, 0, cells.size⟩ → Rep g2 v cv ∧ BlkRep g2 (w.heap.push (.cells cells ty)) ⟨w.heap.size, 0, cells.size⟩ b := by
  have blk : ∀ {g2 : Env} {cells : Array Value} {ty : TypeId} {q : Nat} {c : T V}, q = cells.size → (∀ j u, c.get j = some u → j < q ∧ c1 u = true ∧ ∃ cv, cells[j]? = some cv ∧ Rep g2 u cv) →
      BlkRep g2 (w.heap.push (.cells cells ty)) ⟨w.heap.size, 0, cells.size⟩ (.cells q true c) := fun {g2 cells ty q c} hq hc =>
    ⟨cells, ty, (0, 0), by simp, rfl, fun _ _ hk => absurd hk.2 (Nat.not_lt_zero _), by show 0 + q ≤ cells.size; omega, fun _ => by show 0 + q = cells.size; omega, fun j u hj => by
      obtain ⟨h1, h2, cv, h3, h4⟩ := hc j u hj
      exact ⟨h1, h2, cv, by rw [Nat.zero_add]; exact h3, h4⟩⟩
  have box : ∀ {z : V} {cz : Value} {ty : TypeId} {vs : List V} {c : T V}, cellsO z = some vs → Rep g z cz → (∀ (j : Nat) (u : V), c.get j = some u → vs[j]? = some u) → ∀ g2 : Env, Sub g g2 → g2 id = some ⟨w.heap.size, 0, cz.cells.size⟩ →
      Rep g2 (.ptr id 0) (.pointer (some ⟨w.heap.size, 0, none⟩)) ∧ BlkRep g2 (w.heap.push (.cells cz.cells ty)) ⟨w.heap.size, 0, cz.cells.size⟩ (.cells vs.length true c) := fun {z cz ty vs c} hvs hz hc g2 hs hg => by
    obtain ⟨hr, h1⟩ := cellsO_rep hvs hz
    refine ⟨.ptr (x := ⟨w.heap.size, 0, cz.cells.size⟩) hg, blk (hr.length.trans Array.length_toList) fun j u hj => ?_⟩
    have hj := hc j u hj
    obtain ⟨cv, h2, h3⟩ := hr.get hj
    exact ⟨(List.getElem?_eq_some_iff.1 hj).1, h1 _ (List.mem_of_getElem? hj), cv, by rw [← Array.getElem?_toList]; exact h2, h3.mono hs⟩
  have wk : ∀ {vs : List V} {K : T V → Option (V × Blk)} {r : V × Blk}, writeK .e 0 vs K = some r → ∃ c : T V, K c = some r ∧ ∀ (j : Nat) (u : V), c.get j = some u → vs[j]? = some u := fun {vs K r} h => by
    obtain ⟨c, hc, h⟩ := writeK_some h
    refine ⟨c, h, fun j u hj => ?_⟩
    rcases hc j u hj with ⟨_, g2⟩ | ⟨_, g2⟩
    · rwa [Nat.sub_zero] at g2
    · simp [T.get_e] at g2
  unfold fltD at h
  split at h
  · rename_i e ho
    replace h := ob_some h; obtain ⟨z, hz, h⟩ := h
    replace h := ob_some h; obtain ⟨vs, hvs, h⟩ := h
    obtain ⟨c, h, hc⟩ := wk h
    injection h with h; injection h with h1 h2; subst h1 h2
    obtain ⟨i, zv, hi, hiz, hr⟩ := zeroV_rep (P := P) (g := g) hz
    refine ⟨zv.cells, e, .pointer (some ⟨w.heap.size, 0, none⟩), ?_, box hvs hr hc⟩
    simp only [execOp, ho]
    exact Ev.lift_v (by simp [Instr.alloc, zeroValue, typeInfo, hi, hiz, newVar, newRow])
  · rename_i t x ho
    replace h := ob_some h; obtain ⟨z, hz, h⟩ := h
    replace h := ob_some h; obtain ⟨vs, hvs, h⟩ := h
    obtain ⟨c, h, hc⟩ := wk h
    injection h with h; injection h with h1 h2; subst h1 h2
    refine ⟨(a.eval x).cells, t, .pointer (some ⟨w.heap.size, 0, none⟩), ?_, box hvs (hF x (by rw [ho]; simp [Op.operands]) _ hz) hc⟩
    simp only [execOp, ho]
    exact Ev.lift_v (by simp [Instr.box, newVar, newRow])
  · rename_i t len ps ho
    split at h
    · rename_i e hk
      have hu := kind_slice hk
      replace h := bb_some h; obtain ⟨hb, h⟩ := h
      rw [Bool.and_eq_true] at hb
      obtain ⟨hzk, hb⟩ := hb
      have hb := Nat.le_of_ble_eq_true hb
      replace h := ob_some h; obtain ⟨zv, hzv, h⟩ := h
      replace h := ob_some h; obtain ⟨zs, hzs, h⟩ := h
      obtain ⟨c, cells, h, hc, hsz, hpos, hrun⟩ := bsl_run (a := a) (w := w) hk hzk hb (hF.sub (by rw [ho]; simp [Op.operands])) hzv hzs h
      injection h with h; injection h with h1 h2; subst h1 h2
      refine ⟨cells, e, .slice (some ⟨w.heap.size, 0, none⟩) len len, ?_, fun g2 hs hg => ⟨?_, blk hsz.symm fun j u hj => ?_⟩⟩
      · simp only [execOp, ho]
        rw [parts_toArray] at hrun
        exact Ev.lift_v hrun
      · exact .sl (x := ⟨w.heap.size, 0, cells.size⟩) hg hpos (Nat.le_refl _) (fun _ => rfl) (by show 0 + 0 + len * szT P e = cells.size; omega)
      · obtain ⟨h1, cv, h2, h3⟩ := hc j u hj
        have hjl : j < cells.size := by have := (List.getElem?_eq_some_iff.1 h2).1; rwa [Array.length_toList] at this
        exact ⟨by omega, h1, cv, by rw [← Array.getElem?_toList]; exact h2, h3.mono hs⟩
    · cases h
  · cases h

def putG (g : Env) (id : Nat) (x : Lc) : Env := ⟨fun i => if i = id then some x else g i, g.top⟩
theorem putG_new {id : Nat} {x : Lc} : putG g id x id = some x := by simp [putG]
theorem putG_other {id i : Nat} {x : Lc} (h : i ≠ id) : putG g id x i = g i := by simp [putG, h]
theorem putG_sub {id : Nat} {x : Lc} (h : g id = none) : Sub g (putG g id x) := fun i y hy => by
  by_cases e : i = id
  · subst e; rw [h] at hy; cases hy
  · rw [putG_other e]; exact hy

/-- New memory that is not seen yet. -/
structure Park (n0 : Nat) (pd : List (Nat × Blk)) (g : Env) (M : Mm) (w : World) (base : Nat) (S : Nat → Prop) : Prop where
  is : ∀ i, S i → ∃ x b, findB i pd = some b ∧ g (n0 + i) = some x ∧ BlkRep g w.heap x b ∧ base ≤ x.blk ∧ ∀ id c y, M.get id = some c → g id = some y → y.blk ≠ x.blk
  apart : ∀ i j x y, S i → S j → g (n0 + i) = some x → g (n0 + j) = some y → x.blk = y.blk → i = j
theorem Park.less {n0 base : Nat} {pd : List (Nat × Blk)} {S S' : Nat → Prop} (h : Park n0 pd g M w base S) (hs : ∀ i, S' i → S i) : Park n0 pd g M w base S' :=
  ⟨fun i hi => h.is i (hs i hi), fun i j x y hi hj => h.apart i j x y (hs i hi) (hs j hj)⟩
/-- Another operation goes by. -/
theorem Park.mv {n0 base : Nat} {pd : List (Nat × Blk)} {S : Nat → Prop} {g' : Env} {M' : Mm} {w' : World} (h : Park n0 pd g M w base S) (hM : RM w0 g M n w) (hm : Mv g M w g' M' w') (ht : ∀ i, S i → n0 + i < g.top) : Park n0 pd g' M' w' base S := by
  refine ⟨fun i hi => ?_, fun i j x y hi hj hx hy => ?_⟩
  · obtain ⟨x, b, h1, h2, h3, h4, h5⟩ := h.is i hi
    refine ⟨x, b, h1, hm.ext _ _ h2, h3.ext hm.ext (hm.keep _ (hM.lt _ _ h2).2.2 fun id y c hc hy => h5 id c y hc hy), h4, fun id c y hc hy e => ?_⟩
    obtain ⟨id0, x0, c0, k1, k2, k3⟩ := hm.img id y c hc hy (by rw [e]; exact (hM.lt _ _ h2).2.2)
    exact h5 id0 c0 x0 k1 k2 (k3.trans e)
  · rw [hm.low _ (ht i hi)] at hx
    rw [hm.low _ (ht j hj)] at hy
    exact h.apart i j x y hi hj hx hy
/-- It is seen. -/
theorem reveal_some {n0 base : Nat} {pd : List (Nat × Blk)} {g0 : Env} {M0 : Mm} {wr : World} : ∀ {rv : List Nat} {S : Nat → Prop} {M : Mm} {K : Mm → Option A}, revealK n0 pd rv M K = some r → rv.Nodup → (∀ i ∈ rv, S i) → Park n0 pd g M w base S → RM w0 g M n w → Mv g0 M0 wr g M w → base = wr.heap.size →
    ∃ M', K M' = some r ∧ RM w0 g M' n w ∧ Mv g0 M0 wr g M' w ∧ Park n0 pd g M' w base (fun i => S i ∧ i ∉ rv)
  | [], S, M, K, h, _, _, hp, hM, hm, _ => ⟨M, h, hM, hm, hp.less fun i hi => hi.1⟩
  | i :: rv, S, M, K, h, hnd, hS, hp, hM, hm, hb => by
    have h : ob (findB i pd) (fun b => T.setK 64 M (n0 + i) (some b) fun M => revealK n0 pd rv M K) = some r := h
    replace h := ob_some h; obtain ⟨b, hfb, h⟩ := h
    rw [T.setK_set] at h
    obtain ⟨x, b', h1, h2, h3, h4, h5⟩ := hp.is i (hS i (by simp))
    obtain rfl : b' = b := by rw [hfb] at h1; injection h1 with h1; exact h1.symm
    have key : ∀ j c, (M.set (n0 + i) (some b')).get j = some c → (j = n0 + i ∧ c = b') ∨ (j ≠ n0 + i ∧ M.get j = some c) := fun j c hj => by
      rcases T.get_set hj with ⟨k1, k2⟩ | k
      · injection k2 with k2; exact .inl ⟨k1, k2.symm⟩
      · exact .inr k
    have hM' : RM w0 g (M.set (n0 + i) (some b')) n w := by
      refine ⟨fun j c hj => ?_, fun j k y z c d hj hk hy hz e => ?_, hM.lt, hM.size, hM.old, hM.tape, hM.os, hM.output, hM.top⟩
      · rcases key j c hj with ⟨rfl, rfl⟩ | ⟨_, hj⟩
        · exact ⟨x, h2, h3⟩
        · exact hM.rep j c hj
      · rcases key j c hj with ⟨e1, e2⟩ | ⟨hne, hj'⟩ <;> rcases key k d hk with ⟨e3, e4⟩ | ⟨hne', hk'⟩
        · rw [e1, e3]
        · obtain rfl : x = y := by rw [e1, h2] at hy; injection hy
          exact absurd e.symm (h5 k d z hk' hz)
        · obtain rfl : x = z := by rw [e3, h2] at hz; injection hz
          exact absurd e (h5 j c y hj' hy)
        · exact hM.inj j k y z c d hj' hk' hy hz e
    have hm' : Mv g0 M0 wr g (M.set (n0 + i) (some b')) w := by
      refine ⟨hm.ext, hm.size, hm.keep, fun id y c hc hy hlt => ?_, hm.low, hm.up⟩
      rcases key id c hc with ⟨rfl, rfl⟩ | ⟨_, hc⟩
      · obtain rfl : x = y := by rw [h2] at hy; injection hy
        omega
      · exact hm.img id y c hc hy hlt
    have hp' : Park n0 pd g (M.set (n0 + i) (some b')) w base (fun j => S j ∧ j ≠ i) := by
      refine ⟨fun j hj => ?_, fun j k y z hj hk => hp.apart j k y z hj.1 hk.1⟩
      obtain ⟨y, c, k1, k2, k3, k4, k5⟩ := hp.is j hj.1
      refine ⟨y, c, k1, k2, k3, k4, fun id d z hd hz e => ?_⟩
      rcases key id d hd with ⟨rfl, rfl⟩ | ⟨_, hd⟩
      · exact hj.2 (hp.apart j i y z hj.1 (hS i (by simp)) k2 hz e.symm)
      · exact k5 id d z hd hz e
    rw [List.nodup_cons] at hnd
    obtain ⟨M', k1, k2, k3, k4⟩ := reveal_some h hnd.2 (fun j hj => ⟨hS j (by simp [hj]), fun e => hnd.1 (e ▸ hj)⟩) hp' hM' hm' hb
    exact ⟨M', k1, k2, k3, k4.less fun j hj => ⟨⟨hj.1, fun e => hj.2 (by simp [e])⟩, fun e => hj.2 (by simp [e])⟩⟩
/-- It is made, and set aside. -/
theorem park_new {n0 base i : Nat} {pd : List (Nat × Blk)} {g0 : Env} {M0 : Mm} {wr : World} {S : Nat → Prop} {cells : Array Value} {ty : TypeId} {b : Blk} (hM : RM w0 g M n w) (hm : Mv g0 M0 wr g M w) (hp : Park n0 pd g M w base S) (hb : base ≤ w.heap.size) (hg : g (n0 + i) = none) (hi : n0 + i < g.top) (h0 : g0.top ≤ n0)
    (hfb : findB i pd = some b) (hblk : BlkRep (putG g (n0 + i) ⟨w.heap.size, 0, cells.size⟩) (w.heap.push (.cells cells ty)) ⟨w.heap.size, 0, cells.size⟩ b) :
    RM w0 (putG g (n0 + i) ⟨w.heap.size, 0, cells.size⟩) M n (w.alloc (.cells cells ty)) ∧ Mv g0 M0 wr (putG g (n0 + i) ⟨w.heap.size, 0, cells.size⟩) M (w.alloc (.cells cells ty)) ∧
      Park n0 pd (putG g (n0 + i) ⟨w.heap.size, 0, cells.size⟩) M (w.alloc (.cells cells ty)) base (fun j => S j ∨ j = i) := by
  have hs : Sub g (putG g (n0 + i) ⟨w.heap.size, 0, cells.size⟩) := putG_sub hg
  have hheap : (w.alloc (.cells cells ty)).heap = w.heap.push (.cells cells ty) := rfl
  have hlt : ∀ k, k < w.heap.size → (w.alloc (.cells cells ty)).heap[k]? = w.heap[k]? := fun k hk => by rw [hheap, Array.getElem?_push_lt hk, Array.getElem?_eq_getElem hk]
  have hne : ∀ id c, M.get id = some c → id ≠ n0 + i := fun id c hc e => by
    obtain ⟨y, hy, _⟩ := hM.rep id c hc
    rw [e, hg] at hy; cases hy
  have gold : ∀ id c y, M.get id = some c → putG g (n0 + i) ⟨w.heap.size, 0, cells.size⟩ id = some y → g id = some y := fun id c y hc hy => by rw [putG_other (hne id c hc)] at hy; exact hy
  have hSne : ∀ j, S j → j ≠ i := fun j hj e => by obtain ⟨x, _, _, h2, _⟩ := hp.is j hj; rw [e, hg] at h2; cases h2
  refine ⟨⟨fun id c hc => ?_, fun j k y z c d hj hk hy hz e => ?_, fun id y hy => ?_, ?_, fun k hk => ?_, hM.tape, hM.os, hM.output, hM.top⟩, ⟨hm.ext.trans hs, ?_, fun k hk hn => ?_, fun id y c hc hy hl => ?_, fun id hid => ?_, hm.up⟩, ⟨fun j hj => ?_, fun j k y z hj hk hy hz e => ?_⟩⟩
  · obtain ⟨y, hy, hr⟩ := hM.rep id c hc
    exact ⟨y, hs _ _ hy, hr.ext hs (hlt _ (hM.lt _ _ hy).2.2)⟩
  · exact hM.inj j k y z c d hj hk (gold _ _ _ hj hy) (gold _ _ _ hk hz) e
  · rw [hheap, Array.size_push]
    by_cases e : id = n0 + i
    · subst e
      rw [putG_new] at hy; injection hy with hy; subst hy
      exact ⟨by have := hM.top; omega, hM.size, Nat.lt_succ_self _⟩
    · rw [putG_other e] at hy
      have := hM.lt id y hy
      exact ⟨this.1, this.2.1, by omega⟩
  · rw [hheap, Array.size_push]; have := hM.size; omega
  · rw [hlt k (Nat.lt_of_lt_of_le hk hM.size)]; exact hM.old k hk
  · rw [hheap, Array.size_push]; have := hm.size; omega
  · rw [hlt k (Nat.lt_of_lt_of_le hk hm.size)]; exact hm.keep k hk hn
  · exact hm.img id y c hc (gold _ _ _ hc hy) hl
  · rw [putG_other (by omega)]; exact hm.low id hid
  · rcases hj with hj | rfl
    · obtain ⟨x, c, k1, k2, k3, k4, k5⟩ := hp.is j hj
      refine ⟨x, c, k1, hs _ _ k2, k3.ext hs (hlt _ (hM.lt _ _ k2).2.2), k4, fun id d z hd hz => k5 id d z hd (gold _ _ _ hd hz)⟩
    · exact ⟨_, b, hfb, putG_new, hblk, hb, fun id d z hd hz => by
        have := (hM.lt _ _ (gold _ _ _ hd hz)).2.2
        show z.blk ≠ w.heap.size
        omega⟩
  · have one : ∀ k, S k → ∀ z, putG g (n0 + i) ⟨w.heap.size, 0, cells.size⟩ (n0 + k) = some z → z.blk < w.heap.size ∧ g (n0 + k) = some z := fun k hk z hz => by
      rw [putG_other (by have := hSne k hk; omega)] at hz
      exact ⟨(hM.lt _ _ hz).2.2, hz⟩
    rcases hj with hj | rfl <;> rcases hk with hk | hk
    · exact hp.apart j k y z hj hk (one j hj y hy).2 (one k hk z hz).2 e
    · subst hk
      rw [putG_new] at hz; injection hz with hz; subst hz
      have := (one j hj y hy).1
      exact absurd e (by show y.blk ≠ w.heap.size; omega)
    · rw [putG_new] at hy; injection hy with hy; subst hy
      have := (one k hk z hz).1
      exact absurd e (by show w.heap.size ≠ z.blk; omega)
    · exact hk.symm
end Go.Eb
