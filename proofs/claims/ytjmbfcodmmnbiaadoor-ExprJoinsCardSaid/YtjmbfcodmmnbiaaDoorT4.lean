import Derived.LoopN
import Derived.Test.YtjmbfcodmmnbiaaDoorT3
set_option linter.unusedVariables false
set_option linter.unusedSimpArgs false
/-
The closed evaluator: new memory that is made out of order.
-/
set_option linter.unusedVariables false
set_option linter.unusedSimpArgs false
namespace Go.Eb
open Go.Ev (szT byT aggO offT fszT TK kindT elemK zok LK leavesT kind_slice kind_array kind_str kind_int run_sizeOf szT_info zok_is parts_toArray)
variable {A : Type} {P : Program} {w0 : World} {g : Env} {F : Fr} {M : Mm} {n m : Nat} {a : Act} {w : World} {r : A} {ops : Array Oper} {ps : List Pre} {D must : Nat} {listed : Array Bool}

theorem T.get_setD_is {α : Type} : ∀ (d : Nat) (t : T α) (k j : Nat) (v : Option α), k + 2 ≤ 2 ^ d → (T.setD d t k v).get j = if j = k then v else t.get j
  | 0, t, k, j, v, h => by simp at h
  | d + 1, .e, k, j, v, h => by
    rw [Nat.pow_succ] at h
    rw [T.setD]
    by_cases hk : k = 0
    · rw [if_pos hk, T.get_n, hk]
      by_cases hj : j = 0
      · simp [hj]
      · rw [if_neg hj, if_neg hj]; split <;> rfl
    · rw [if_neg hk]
      by_cases hk1 : k % 2 = 1
      · rw [if_pos hk1, T.get_n]
        by_cases hj : j = 0
        · rw [if_pos hj, if_neg (by omega)]; rfl
        · rw [if_neg hj]
          by_cases hj1 : j % 2 = 1
          · rw [if_pos hj1, T.get_setD_is d .e _ _ _ (by omega)]
            by_cases e : j = k
            · rw [if_pos (by rw [e]), if_pos e]
            · rw [if_neg (by omega), if_neg e]; rfl
          · rw [if_neg hj1, if_neg (by omega)]; rfl
      · rw [if_neg hk1, T.get_n]
        by_cases hj : j = 0
        · rw [if_pos hj, if_neg (by omega)]; rfl
        · rw [if_neg hj]
          by_cases hj1 : j % 2 = 1
          · rw [if_pos hj1, if_neg (by omega)]; rfl
          · rw [if_neg hj1, T.get_setD_is d .e _ _ _ (by omega)]
            by_cases e : j = k
            · rw [if_pos (by rw [e]), if_pos e]
            · rw [if_neg (by omega), if_neg e]; rfl
  | d + 1, .n l u q, k, j, v, h => by
    rw [Nat.pow_succ] at h
    rw [T.setD]
    by_cases hk : k = 0
    · rw [if_pos hk, T.get_n, T.get_n, hk]
      by_cases hj : j = 0
      · simp [hj]
      · rw [if_neg hj, if_neg hj]; rw [if_neg hj]
    · rw [if_neg hk]
      by_cases hk1 : k % 2 = 1
      · rw [if_pos hk1, T.get_n, T.get_n]
        by_cases hj : j = 0
        · rw [if_pos hj, if_neg (by omega), if_pos hj]
        · rw [if_neg hj, if_neg hj]
          by_cases hj1 : j % 2 = 1
          · rw [if_pos hj1, if_pos hj1, T.get_setD_is d l _ _ _ (by omega)]
            by_cases e : j = k
            · rw [if_pos (by rw [e]), if_pos e]
            · rw [if_neg (by omega), if_neg e]
          · rw [if_neg hj1, if_neg hj1, if_neg (by omega)]
      · rw [if_neg hk1, T.get_n, T.get_n]
        by_cases hj : j = 0
        · rw [if_pos hj, if_neg (by omega), if_pos hj]
        · rw [if_neg hj, if_neg hj]
          by_cases hj1 : j % 2 = 1
          · rw [if_pos hj1, if_pos hj1, if_neg (by omega)]
          · rw [if_neg hj1, if_neg hj1, T.get_setD_is d q _ _ _ (by omega)]
            by_cases e : j = k
            · rw [if_pos (by rw [e]), if_pos e]
            · rw [if_neg (by omega), if_neg e]
theorem T.get_set_is {α : Type} {t : T α} {k j : Nat} {v : Option α} (h : k ≤ 1000000) : (t.set k v).get j = if j = k then v else t.get j :=
  T.get_setD_is 64 t k j v (Nat.le_trans (show k + 2 ≤ 1000002 by omega) (by decide))

theorem fillK_congr {F F' : Fr} {pl : Nat → Option (Nat × Nat)} {q : Nat} {K : T V → Option A} : ∀ {ps : List (Nat × Operand)} {c : T V}, (∀ x ∈ ps.map (·.2), opnd F x = opnd F' x) → fillK F pl q c ps K = fillK F' pl q c ps K
  | [], c, _ => rfl
  | p :: ps, c, h => by
    show ob (opnd F p.2) (fun v => ob (cellsO v) fun vs => ob (pl p.1) fun q' => bb (Nat.beq vs.length q'.2 && Nat.ble (q'.1 + q'.2) q) (writeK c q'.1 vs fun c => fillK F pl q c ps K)) =
      ob (opnd F' p.2) (fun v => ob (cellsO v) fun vs => ob (pl p.1) fun q' => bb (Nat.beq vs.length q'.2 && Nat.ble (q'.1 + q'.2) q) (writeK c q'.1 vs fun c => fillK F' pl q c ps K))
    rw [h p.2 (by simp)]
    have : (fun c => fillK F pl q c ps K) = fun c => fillK F' pl q c ps K := funext fun c => fillK_congr fun x hx => h x (by simp at hx ⊢; exact .inr hx)
    simp only [this]
theorem opnd_congr {F F' : Fr} {x : Operand} (h : ∀ t, x = .tmp t → F.get t = F'.get t) : opnd F x = opnd F' x := by
  cases x with
  | tmp t => exact h t rfl
  | _ => rfl
theorem fltD_congr {F F' : Fr} {id : Nat} {op : Op} (h : ∀ t, Operand.tmp t ∈ op.operands.toList → F.get t = F'.get t) : fltD P F id op = fltD P F' id op := by
  unfold fltD
  split
  · rfl
  · rename_i x
    rw [opnd_congr (F := F) (F' := F') fun t ht => h t (by simp [Op.operands, ht])]
  · rename_i t len ps
    split
    · congr 1
      funext
      congr 1
      funext z
      congr 1
      funext zs
      congr 1
      funext c
      exact fillK_congr fun x hx => opnd_congr fun t ht => h t (by simp [Op.operands]; subst ht; simpa using hx)
    · rfl
  · rfl

theorem bsl_run {K : T V → Option A} {t e : TypeId} {len : Nat} {ps : List (Nat × Operand)} (hk : kindT P t = .slice e) (hzk : zok P e = true) (hb : len * szT P e ≤ 16777216) (hF : EvR g F a (ps.map (·.2))) {zv : V} {zs : List V} (hzv : zeroV P e = some zv) (hzs : cellsO zv = some zs)
    (h : writeK .e 0 (List.replicate len zs).flatten (fun c => fillK F (placeR (szT P e)) (len * szT P e) c ps K) = some r) :
    ∃ c' cells', K c' = some r ∧ Cells g c' cells'.toList ∧ cells'.size = len * szT P e ∧ 0 < szT P e ∧ (Instr.buildSlice t len (ps.map fun p => (p.1, a.eval p.2)).toArray).run P w = .ok (.slice (some ⟨w.heap.size, 0, none⟩) len len) (w.alloc (.cells cells' e)) := by
  have hu := kind_slice hk
  replace h := writeK_some h; obtain ⟨c, hc, h⟩ := h
  obtain ⟨i, z, hi, hz, hzsz, hipos, hisz, hiby⟩ := zok_is hzk
  obtain ⟨i', z', hi', hz', hrz⟩ := zeroV_rep (P := P) (g := g) hzv
  obtain rfl : i = i' := by rw [hi] at hi'; injection hi'
  obtain rfl : z = z' := by rw [hz] at hz'; injection hz'
  obtain ⟨hr, h1⟩ := cellsO_rep hzs hrz
  have hzl : zs.length = z.cells.size := by rw [hr.length]; exact Array.length_toList
  have hzr := zeros_rep hr len (by omega)
  have hsz : szT P e = z.cells.size := by rw [hzsz, hisz]
  obtain ⟨c', cells', h2, h3, h4, h5⟩ := fillK_some (place := placeR (szT P e)) (place' := fun i => some (i * szT P e, szT P e)) (fun f q hq => hq) (cells := (Array.range (len * z.cells.size)).map (z.cells[· % z.cells.size]!)) hF h (fun j u hj => by
    rcases hc j u hj with ⟨_, g2⟩ | ⟨_, g2⟩
    · rw [Nat.sub_zero] at g2
      obtain ⟨cv, hcv, hr'⟩ := hzr.get g2
      exact ⟨zeros_ones h1 len _ (List.mem_of_getElem? g2), cv, hcv, hr'⟩
    · simp [T.get_e] at g2) (by simp [hsz])
  have hnb : ¬ (len * szT P e > 2 ^ 24) := by omega
  refine ⟨c', cells', h2, h4, h5, by omega, ?_⟩
  simp only [Instr.buildSlice, Sem.run_bind, run_underlying hu, Result.andThen_ok, run_sizeOf hi, hisz, if_neg hnb, Sem.run_ite]
  by_cases h0 : len * szT P e = 0
  · have hl0 : len = 0 := mul0 h0 (by omega)
    subst hl0
    simp only [Nat.zero_mul, if_true, Sem.run_pure, Result.andThen_ok] at h3 ⊢
    have : ((Array.range 0).map fun x => (#[] : Array Value)[x % (#[] : Array Value).size]!) = ((Array.range 0).map (z.cells[· % z.cells.size]!)) := by simp
    rw [this]
    simp only [List.toList_toArray, h3]
    simp [newRow]
  · simp only [h0, if_false, zeroValue, typeInfo, Sem.run_bind, run_program, Result.andThen_ok, hi, Sem.run_pure, hz]
    rw [hsz] at h3 ⊢
    simp only [List.toList_toArray, h3]
    simp [newRow]

/-- New memory is made. -/
theorem flt_run (hM : RM w0 g M n w) {o : Oper} (hF : EvR g F a o.op.operands.toList) {id : Nat} {v : V} {b : Blk} (h : fltD P F id o.op = some (v, b)) :
    ∃ cells ty cv, (execOp a.eval o).run P w = .ok (.value cv) (w.alloc (.cells cells ty)) ∧ ∀ g2 : Env, Sub g g2 → g2 id = some ⟨w.heap.size, 0, cells.size⟩ → Rep g2 v cv ∧ BlkRep g2 (w.heap.push (.cells cells ty)) ⟨w.heap.size, 0, cells.size⟩ b := by
  have blk : ∀ {g2 : Env} {cells : Array Value} {ty : TypeId} {q : Nat} {c : T V}, q = cells.size → (∀ j u, c.get j = some u → j < q ∧ c1 u = true ∧ ∃ cv, cells[j]? = some cv ∧ Rep g2 u cv) →
      BlkRep g2 (w.heap.push (.cells cells ty)) ⟨w.heap.size, 0, cells.size⟩ (.cells q true c) := fun {g2 cells ty q c} hq hc =>
    ⟨cells, ty, (0, 0), by simp, rfl, fun _ _ hk => absurd hk.2 (Nat.not_lt_zero _), by show 0 + q ≤ cells.size; omega, fun _ => by show 0 + q = cells.size; omega, fun j u hj => by
      obtain ⟨h1, h2, cv, h3, h4⟩ := hc j u hj
      exact ⟨h1, h2, cv, by rw [Nat.zero_add]; exact h3, h4⟩⟩
  have box : ∀ {z : V} {cz : Value} {ty : TypeId} {vs : List V} {c : T V}, cellsO z = some vs → Rep g z cz → (∀ (j : Nat) (u : V), c.get j = some u → vs[j]? = some u) → ∀ g2 : Env, Sub g g2 → g2 id = some ⟨w.heap.size, 0, cz.cells.size⟩ →
      Rep g2 (.ptr id 0) (.pointer (some ⟨w.heap.size, 0, none⟩)) ∧ BlkRep g2 (w.heap.push (.cells cz.cells ty)) ⟨w.heap.size, 0, cz.cells.size⟩ (.cells vs.length true c) := fun {z cz ty vs c} hvs hz hc g2 hs hg => by
    obtain ⟨hr, h1⟩ := cellsO_rep hvs hz
    refine ⟨.ptr (x := ⟨w.heap.size, 0, cz.cells.size⟩) hg, blk (hr.length.trans Array.length_toList) fun j u hj => ?_⟩
    have hj := hc j u hj
    obtain ⟨cv, h2, h3⟩ := hr.get hj
    exact ⟨(List.getElem?_eq_some_iff.1 hj).1, h1 _ (List.mem_of_getElem? hj), cv, by rw [← Array.getElem?_toList]; exact h2, h3.mono hs⟩
  have wk : ∀ {vs : List V} {K : T V → Option (V × Blk)} {r : V × Blk}, writeK .e 0 vs K = some r → ∃ c : T V, K c = some r ∧ ∀ (j : Nat) (u : V), c.get j = some u → vs[j]? = some u := fun {vs K r} h => by
    obtain ⟨c, hc, h⟩ := writeK_some h
    refine ⟨c, h, fun j u hj => ?_⟩
    rcases hc j u hj with ⟨_, g2⟩ | ⟨_, g2⟩
    · rwa [Nat.sub_zero] at g2
    · simp [T.get_e] at g2
  unfold fltD at h
  split at h
  · rename_i e ho
    replace h := ob_some h; obtain ⟨z, hz, h⟩ := h
    replace h := ob_some h; obtain ⟨vs, hvs, h⟩ := h
    obtain ⟨c, h, hc⟩ := wk h
    injection h with h; injection h with h1 h2; subst h1 h2
    obtain ⟨i, zv, hi, hiz, hr⟩ := zeroV_rep (P := P) (g := g) hz
    refine ⟨zv.cells, e, .pointer (some ⟨w.heap.size, 0, none⟩), ?_, box hvs hr hc⟩
    simp only [execOp, ho]
    exact Ev.lift_v (by simp [Instr.alloc, zeroValue, typeInfo, hi, hiz, newVar, newRow])
  · rename_i t x ho
    replace h := ob_some h; obtain ⟨z, hz, h⟩ := h
    replace h := ob_some h; obtain ⟨vs, hvs, h⟩ := h
    obtain ⟨c, h, hc⟩ := wk h
    injection h with h; injection h with h1 h2; subst h1 h2
    refine ⟨(a.eval x).cells, t, .pointer (some ⟨w.heap.size, 0, none⟩), ?_, box hvs (hF x (by rw [ho]; simp [Op.operands]) _ hz) hc⟩
    simp only [execOp, ho]
    exact Ev.lift_v (by simp [Instr.box, newVar, newRow])
  · rename_i t len ps ho
    split at h
    · rename_i e hk
      have hu := kind_slice hk
      replace h := bb_some h; obtain ⟨hb, h⟩ := h
      rw [Bool.and_eq_true] at hb
      obtain ⟨hzk, hb⟩ := hb
      have hb := Nat.le_of_ble_eq_true hb
      replace h := ob_some h; obtain ⟨zv, hzv, h⟩ := h
      replace h := ob_some h; obtain ⟨zs, hzs, h⟩ := h
      obtain ⟨c, cells, h, hc, hsz, hpos, hrun⟩ := bsl_run (a := a) (w := w) hk hzk hb (hF.sub (by rw [ho]; simp [Op.operands])) hzv hzs h
      injection h with h; injection h with h1 h2; subst h1 h2
      refine ⟨cells, e, .slice (some ⟨w.heap.size, 0, none⟩) len len, ?_, fun g2 hs hg => ⟨?_, blk hsz.symm fun j u hj => ?_⟩⟩
      · simp only [execOp, ho]
        rw [parts_toArray] at hrun
        exact Ev.lift_v hrun
      · exact .sl (x := ⟨w.heap.size, 0, cells.size⟩) hg hpos (Nat.le_refl _) (fun _ => rfl) (by show 0 + 0 + len * szT P e = cells.size; omega)
      · obtain ⟨h1, cv, h2, h3⟩ := hc j u hj
        have hjl : j < cells.size := by have := (List.getElem?_eq_some_iff.1 h2).1; rwa [Array.length_toList] at this
        exact ⟨by omega, h1, cv, by rw [← Array.getElem?_toList]; exact h2, h3.mono hs⟩
    · cases h
  · cases h

def putG (g : Env) (id : Nat) (x : Lc) : Env := ⟨fun i => if i = id then some x else g i, g.top⟩
theorem putG_new {id : Nat} {x : Lc} : putG g id x id = some x := by simp [putG]
theorem putG_other {id i : Nat} {x : Lc} (h : i ≠ id) : putG g id x i = g i := by simp [putG, h]
theorem putG_sub {id : Nat} {x : Lc} (h : g id = none) : Sub g (putG g id x) := fun i y hy => by
  by_cases e : i = id
  · subst e; rw [h] at hy; cases hy
  · rw [putG_other e]; exact hy

/-- New memory that is not seen yet. -/
structure Park (n0 : Nat) (pd : List (Nat × Blk)) (g : Env) (M : Mm) (w : World) (base : Nat) (S : Nat → Prop) : Prop where
  is : ∀ i, S i → ∃ x b, findB i pd = some b ∧ g (n0 + i) = some x ∧ BlkRep g w.heap x b ∧ base ≤ x.blk ∧ ∀ id c y, M.get id = some c → g id = some y → y.blk ≠ x.blk
  apart : ∀ i j x y, S i → S j → g (n0 + i) = some x → g (n0 + j) = some y → x.blk = y.blk → i = j
theorem Park.less {n0 base : Nat} {pd : List (Nat × Blk)} {S S' : Nat → Prop} (h : Park n0 pd g M w base S) (hs : ∀ i, S' i → S i) : Park n0 pd g M w base S' :=
  ⟨fun i hi => h.is i (hs i hi), fun i j x y hi hj => h.apart i j x y (hs i hi) (hs j hj)⟩
/-- Another operation goes by. -/
theorem Park.mv {n0 base : Nat} {pd : List (Nat × Blk)} {S : Nat → Prop} {g' : Env} {M' : Mm} {w' : World} (h : Park n0 pd g M w base S) (hM : RM w0 g M n w) (hm : Mv g M w g' M' w') (ht : ∀ i, S i → n0 + i < g.top) : Park n0 pd g' M' w' base S := by
  refine ⟨fun i hi => ?_, fun i j x y hi hj hx hy => ?_⟩
  · obtain ⟨x, b, h1, h2, h3, h4, h5⟩ := h.is i hi
    refine ⟨x, b, h1, hm.ext _ _ h2, h3.ext hm.ext (hm.keep _ (hM.lt _ _ h2).2.2 fun id y c hc hy => h5 id c y hc hy), h4, fun id c y hc hy e => ?_⟩
    obtain ⟨id0, x0, c0, k1, k2, k3⟩ := hm.img id y c hc hy (by rw [e]; exact (hM.lt _ _ h2).2.2)
    exact h5 id0 c0 x0 k1 k2 (k3.trans e)
  · rw [hm.low _ (ht i hi)] at hx
    rw [hm.low _ (ht j hj)] at hy
    exact h.apart i j x y hi hj hx hy
/-- It is seen. -/
theorem reveal_some {n0 base : Nat} {pd : List (Nat × Blk)} {g0 : Env} {M0 : Mm} {wr : World} : ∀ {rv : List Nat} {S : Nat → Prop} {M : Mm} {K : Mm → Option A}, revealK n0 pd rv M K = some r → rv.Nodup → (∀ i ∈ rv, S i) → Park n0 pd g M w base S → RM w0 g M n w → Mv g0 M0 wr g M w → base = wr.heap.size →
    ∃ M', K M' = some r ∧ RM w0 g M' n w ∧ Mv g0 M0 wr g M' w ∧ Park n0 pd g M' w base (fun i => S i ∧ i ∉ rv)
  | [], S, M, K, h, _, _, hp, hM, hm, _ => ⟨M, h, hM, hm, hp.less fun i hi => hi.1⟩
  | i :: rv, S, M, K, h, hnd, hS, hp, hM, hm, hb => by
    have h : ob (findB i pd) (fun b => T.setK 64 M (n0 + i) (some b) fun M => revealK n0 pd rv M K) = some r := h
    replace h := ob_some h; obtain ⟨b, hfb, h⟩ := h
    rw [T.setK_set] at h
    obtain ⟨x, b', h1, h2, h3, h4, h5⟩ := hp.is i (hS i (by simp))
    obtain rfl : b' = b := by rw [hfb] at h1; injection h1 with h1; exact h1.symm
    have key : ∀ j c, (M.set (n0 + i) (some b')).get j = some c → (j = n0 + i ∧ c = b') ∨ (j ≠ n0 + i ∧ M.get j = some c) := fun j c hj => by
      rcases T.get_set hj with ⟨k1, k2⟩ | k
      · injection k2 with k2; exact .inl ⟨k1, k2.symm⟩
      · exact .inr k
    have hM' : RM w0 g (M.set (n0 + i) (some b')) n w := by
      refine ⟨fun j c hj => ?_, fun j k y z c d hj hk hy hz e => ?_, hM.lt, hM.size, hM.old, hM.tape, hM.os, hM.output, hM.top⟩
      · rcases key j c hj with ⟨rfl, rfl⟩ | ⟨_, hj⟩
        · exact ⟨x, h2, h3⟩
        · exact hM.rep j c hj
      · rcases key j c hj with ⟨e1, e2⟩ | ⟨hne, hj'⟩ <;> rcases key k d hk with ⟨e3, e4⟩ | ⟨hne', hk'⟩
        · rw [e1, e3]
        · obtain rfl : x = y := by rw [e1, h2] at hy; injection hy
          exact absurd e.symm (h5 k d z hk' hz)
        · obtain rfl : x = z := by rw [e3, h2] at hz; injection hz
          exact absurd e (h5 j c y hj' hy)
        · exact hM.inj j k y z c d hj' hk' hy hz e
    have hm' : Mv g0 M0 wr g (M.set (n0 + i) (some b')) w := by
      refine ⟨hm.ext, hm.size, hm.keep, fun id y c hc hy hlt => ?_, hm.low, hm.up⟩
      rcases key id c hc with ⟨rfl, rfl⟩ | ⟨_, hc⟩
      · obtain rfl : x = y := by rw [h2] at hy; injection hy
        omega
      · exact hm.img id y c hc hy hlt
    have hp' : Park n0 pd g (M.set (n0 + i) (some b')) w base (fun j => S j ∧ j ≠ i) := by
      refine ⟨fun j hj => ?_, fun j k y z hj hk => hp.apart j k y z hj.1 hk.1⟩
      obtain ⟨y, c, k1, k2, k3, k4, k5⟩ := hp.is j hj.1
      refine ⟨y, c, k1, k2, k3, k4, fun id d z hd hz e => ?_⟩
      rcases key id d hd with ⟨rfl, rfl⟩ | ⟨_, hd⟩
      · exact hj.2 (hp.apart j i y z hj.1 (hS i (by simp)) k2 hz e.symm)
      · exact k5 id d z hd hz e
    rw [List.nodup_cons] at hnd
    obtain ⟨M', k1, k2, k3, k4⟩ := reveal_some h hnd.2 (fun j hj => ⟨hS j (by simp [hj]), fun e => hnd.1 (e ▸ hj)⟩) hp' hM' hm' hb
    exact ⟨M', k1, k2, k3, k4.less fun j hj => ⟨⟨hj.1, fun e => hj.2 (by simp [e])⟩, fun e => hj.2 (by simp [e])⟩⟩
/-- It is made, and set aside. -/
theorem park_new {n0 base i : Nat} {pd : List (Nat × Blk)} {g0 : Env} {M0 : Mm} {wr : World} {S : Nat → Prop} {cells : Array Value} {ty : TypeId} {b : Blk} (hM : RM w0 g M n w) (hm : Mv g0 M0 wr g M w) (hp : Park n0 pd g M w base S) (hb : base ≤ w.heap.size) (hg : g (n0 + i) = none) (hi : n0 + i < g.top) (h0 : g0.top ≤ n0)
    (hfb : findB i pd = some b) (hblk : BlkRep (putG g (n0 + i) ⟨w.heap.size, 0, cells.size⟩) (w.heap.push (.cells cells ty)) ⟨w.heap.size, 0, cells.size⟩ b) :
    RM w0 (putG g (n0 + i) ⟨w.heap.size, 0, cells.size⟩) M n (w.alloc (.cells cells ty)) ∧ Mv g0 M0 wr (putG g (n0 + i) ⟨w.heap.size, 0, cells.size⟩) M (w.alloc (.cells cells ty)) ∧
      Park n0 pd (putG g (n0 + i) ⟨w.heap.size, 0, cells.size⟩) M (w.alloc (.cells cells ty)) base (fun j => S j ∨ j = i) := by
  have hs : Sub g (putG g (n0 + i) ⟨w.heap.size, 0, cells.size⟩) := putG_sub hg
  have hheap : (w.alloc (.cells cells ty)).heap = w.heap.push (.cells cells ty) := rfl
  have hlt : ∀ k, k < w.heap.size → (w.alloc (.cells cells ty)).heap[k]? = w.heap[k]? := fun k hk => by rw [hheap, Array.getElem?_push_lt hk, Array.getElem?_eq_getElem hk]
  have hne : ∀ id c, M.get id = some c → id ≠ n0 + i := fun id c hc e => by
    obtain ⟨y, hy, _⟩ := hM.rep id c hc
    rw [e, hg] at hy; cases hy
  have gold : ∀ id c y, M.get id = some c → putG g (n0 + i) ⟨w.heap.size, 0, cells.size⟩ id = some y → g id = some y := fun id c y hc hy => by rw [putG_other (hne id c hc)] at hy; exact hy
  have hSne : ∀ j, S j → j ≠ i := fun j hj e => by obtain ⟨x, _, _, h2, _⟩ := hp.is j hj; rw [e, hg] at h2; cases h2
  refine ⟨⟨fun id c hc => ?_, fun j k y z c d hj hk hy hz e => ?_, fun id y hy => ?_, ?_, fun k hk => ?_, hM.tape, hM.os, hM.output, hM.top⟩, ⟨hm.ext.trans hs, ?_, fun k hk hn => ?_, fun id y c hc hy hl => ?_, fun id hid => ?_, hm.up⟩, ⟨fun j hj => ?_, fun j k y z hj hk hy hz e => ?_⟩⟩
  · obtain ⟨y, hy, hr⟩ := hM.rep id c hc
    exact ⟨y, hs _ _ hy, hr.ext hs (hlt _ (hM.lt _ _ hy).2.2)⟩
  · exact hM.inj j k y z c d hj hk (gold _ _ _ hj hy) (gold _ _ _ hk hz) e
  · rw [hheap, Array.size_push]
    by_cases e : id = n0 + i
    · subst e
      rw [putG_new] at hy; injection hy with hy; subst hy
      exact ⟨by have := hM.top; omega, hM.size, Nat.lt_succ_self _⟩
    · rw [putG_other e] at hy
      have := hM.lt id y hy
      exact ⟨this.1, this.2.1, by omega⟩
  · rw [hheap, Array.size_push]; have := hM.size; omega
  · rw [hlt k (Nat.lt_of_lt_of_le hk hM.size)]; exact hM.old k hk
  · rw [hheap, Array.size_push]; have := hm.size; omega
  · rw [hlt k (Nat.lt_of_lt_of_le hk hm.size)]; exact hm.keep k hk hn
  · exact hm.img id y c hc (gold _ _ _ hc hy) hl
  · rw [putG_other (by omega)]; exact hm.low id hid
  · rcases hj with hj | rfl
    · obtain ⟨x, c, k1, k2, k3, k4, k5⟩ := hp.is j hj
      refine ⟨x, c, k1, hs _ _ k2, k3.ext hs (hlt _ (hM.lt _ _ k2).2.2), k4, fun id d z hd hz => k5 id d z hd (gold _ _ _ hd hz)⟩
    · exact ⟨_, b, hfb, putG_new, hblk, hb, fun id d z hd hz => by
        have := (hM.lt _ _ (gold _ _ _ hd hz)).2.2
        show z.blk ≠ w.heap.size
        omega⟩
  · have one : ∀ k, S k → ∀ z, putG g (n0 + i) ⟨w.heap.size, 0, cells.size⟩ (n0 + k) = some z → z.blk < w.heap.size ∧ g (n0 + k) = some z := fun k hk z hz => by
      rw [putG_other (by have := hSne k hk; omega)] at hz
      exact ⟨(hM.lt _ _ hz).2.2, hz⟩
    rcases hj with hj | rfl <;> rcases hk with hk | hk
    · exact hp.apart j k y z hj hk (one j hj y hy).2 (one k hk z hz).2 e
    · subst hk
      rw [putG_new] at hz; injection hz with hz; subst hz
      have := (one j hj y hy).1
      exact absurd e (by show y.blk ≠ w.heap.size; omega)
    · rw [putG_new] at hy; injection hy with hy; subst hy
      have := (one k hk z hz).1
      exact absurd e (by show w.heap.size ≠ z.blk; omega)
    · exact hk.symm
end Go.Eb

/-
The closed evaluator: regions that draw their order, run.
-/
set_option linter.unusedVariables false
set_option linter.unusedSimpArgs false
namespace Go.Eb
variable {A : Type} {P : Program} {w0 : World} {g : Env} {F : Fr} {M : Mm} {n m : Nat} {a : Act} {w : World} {r : A} {ops : Array Oper} {ps : List Pre} {D must : Nat} {listed : Array Bool}

theorem ready_iff (hs : listed.size = ops.size) {i : Nat} : i ∈ Region.ready .any ops listed ↔ ∃ o, ops[i]? = some o ∧ ¬ Lst listed i ∧ ∀ e ∈ bindOn o, Lst listed e := by
  unfold Region.ready bindOn Lst
  rw [List.mem_filter, List.mem_range]
  constructor
  · rintro ⟨hi, h⟩
    have ho : ops[i]? = some ops[i] := Array.getElem?_eq_getElem hi
    have hl : listed[i]? = some listed[i] := Array.getElem?_eq_getElem (by omega)
    rw [ho] at h
    simp only [Bool.and_eq_true, Option.map_some, Option.getD_some, Array.all_eq_true_iff_forall_mem, Bool.or_eq_true, Array.getD_eq_getD_getElem?] at h
    refine ⟨_, ho, ?_, fun e he => ?_⟩
    · have := h.1
      rw [hl] at this ⊢
      simpa using this
    · obtain ⟨x, hx, rfl⟩ := List.mem_map.1 he
      rw [List.mem_filter] at hx
      have := h.2 x (by simpa using hx.1)
      rw [hx.2] at this
      simp only [Bool.not_true, Bool.false_eq_true, false_or] at this
      cases hl : listed[x.on]? with
      | none => rw [hl] at this; cases this
      | some b => rw [hl] at this; have : b = true := this; rw [this]
  · rintro ⟨o, ho, hl, hb⟩
    have hi : i < ops.size := (Array.getElem?_eq_some_iff.1 ho).1
    have hl' : listed[i]? = some listed[i] := Array.getElem?_eq_getElem (by omega)
    refine ⟨hi, ?_⟩
    rw [ho]
    simp only [Bool.and_eq_true, Option.map_some, Option.getD_some, Array.all_eq_true_iff_forall_mem, Bool.or_eq_true, Array.getD_eq_getD_getElem?]
    refine ⟨?_, fun x hx => ?_⟩
    · rw [hl'] at hl ⊢
      simpa using hl
    · cases hbx : Region.binds .any x with
      | false => exact .inl rfl
      | true => exact .inr (by rw [hb x.on (List.mem_map.2 ⟨x, List.mem_filter.2 ⟨by simpa using hx, hbx⟩, rfl⟩)]; rfl)
theorem all_done (ok : PsOk P ops.toList ps) (hs : listed.size = ops.size) (hr : Region.ready .any ops listed = []) : ∀ i, i < ops.size → Lst listed i := by
  intro i
  induction i using Nat.strongRecOn with
  | ind i ih =>
    intro hi
    apply Classical.byContradiction
    intro hn
    obtain ⟨p, hp, rfl⟩ := ok.full i (by simpa using hi)
    have ho := ok.at' hp
    rw [Array.getElem?_toList] at ho
    obtain ⟨_, hea⟩ := ok.each
    have : p.i ∈ Region.ready .any ops listed := (ready_iff hs).2 ⟨p.o, ho, hn, fun e he => ih e ((hea p hp).lt e he) (by have := (hea p hp).lt e he; omega)⟩
    rw [hr] at this
    cases this
theorem count_done {i : Nat} (hi : i < listed.size) (hn : ¬ Lst listed i) : (listed.setIfInBounds i true).toList.count false + 1 = listed.toList.count false := by
  have hl : listed[i]? = some listed[i] := Array.getElem?_eq_getElem hi
  have hf : listed[i] = false := by
    unfold Lst at hn; rw [hl] at hn; simpa using hn
  have hi' : i < listed.toList.length := by simpa using hi
  rw [Array.toList_setIfInBounds, List.count_set hi']
  have h1 : listed.toList[i] = false := by simpa using hf
  have : false ∈ listed.toList := h1 ▸ List.getElem_mem hi'
  have hpos := List.count_pos_iff.2 this
  rw [h1]
  simp only [beq_self_eq_true, if_true, show (true == false) = false from rfl, Bool.false_eq_true, if_false, Nat.add_zero]
  omega
theorem count_none (hs : listed.size = ops.size) (h : listed.toList.count false = 0) : ∀ i, i < ops.size → Lst listed i := fun i hi => by
  have hl : listed[i]? = some listed[i] := Array.getElem?_eq_getElem (by omega)
  unfold Lst
  rw [hl]
  cases hb : listed[i] with
  | true => rfl
  | false =>
    have : false ∈ listed.toList := by rw [← hb]; simp
    exact absurd h (by have := List.count_pos_iff.2 this; omega)

theorem noCall_good (hG : GlobOk P w0) : CallGood P w0 (noCall : CallT V) := ⟨hG, fun _ _ _ _ _ _ _ _ _ h => by cases h⟩
theorem recheck_some {all : List Oper} {K : Option A} : ∀ {re : List Oper}, recheck P all F M n re K = some r → K = some r ∧ ∀ o ∈ re, ∃ v, stillD P all o F M n = some v ∧ ∀ d, o.dst = some d → ∃ u, F.get d = some u ∧ sameV v u = true
  | [], h => ⟨h, by simp⟩
  | o :: re, h => by
    have h : ob (stillD P all o F M n) (fun v => match o.dst with
      | some d => ob (F.get d) fun u => bb (sameV v u) (recheck P all F M n re K)
      | none => recheck P all F M n re K) = some r := h
    replace h := ob_some h; obtain ⟨v, hv, h⟩ := h
    have key : recheck P all F M n re K = some r ∧ ∀ d, o.dst = some d → ∃ u, F.get d = some u ∧ sameV v u = true := by
      split at h
      · rename_i d hd
        replace h := ob_some h; obtain ⟨u, hu, h⟩ := h
        replace h := bb_some h; obtain ⟨hs, h⟩ := h
        exact ⟨h, fun e he => by rw [hd] at he; injection he with he; subst he; exact ⟨u, hu, hs⟩⟩
      · rename_i hd
        exact ⟨h, fun e he => by rw [hd] at he; cases he⟩
    obtain ⟨h1, h2⟩ := recheck_some key.1
    exact ⟨h1, fun x hx => by
      rcases List.mem_cons.1 hx with rfl | hx
      · exact ⟨v, hv, key.2⟩
      · exact h2 x hx⟩

/-- New memory on the way. -/
structure Fly (P : Program) (ops : Array Oper) (ps : List Pre) (listed : Array Bool) (D must n0 : Nat) (pd : List (Nat × Blk)) (pend : List Nat) (g : Env) (F : Fr) (M : Mm) (w : World) (base : Nat) : Prop where
  down : Down ops.toList (fun i => tb D i = true)
  free : ∀ i, i < ops.size → ¬ Lst listed i → g (n0 + i) = none
  top : n0 + ops.size ≤ g.top
  nodup : pend.Nodup
  each : ∀ i ∈ pend, ∃ p ∈ ps, p.i = i ∧ p.fl = true ∧ tb D i = true ∧ tb must i = false ∧ ∃ v b, findB i pd = some b ∧ fltD P F (n0 + i) p.o.op = some (v, b) ∧ ∀ d, p.o.dst = some d → F.get d = some v
  full : ∀ p ∈ ps, p.fl = true → tb D p.i = true → Lst listed p.i ∨ p.i ∈ pend
  park : Park n0 pd g M w base (fun i => i ∈ pend ∧ Lst listed i)

theorem down_bt (ok : PsOk P ops.toList ps) (hd : Down ops.toList (fun i => tb D i = true)) {q : Pre} (hq : q ∈ ps) (hb : sub q.b D = true) : Down ops.toList (fun i => tb (bt D q.i) i = true) := fun i o ho hi e he => by
  have hi : tb (bt D q.i) i = true := hi
  show tb (bt D q.i) e = true
  rw [bt_bit, Bool.or_eq_true, decide_eq_true_eq] at hi ⊢
  refine .inl ?_
  rcases hi with hi | rfl
  · exact hd i o ho hi e he
  · have := ok.at' hq
    rw [this] at ho; injection ho with ho; subst ho
    obtain ⟨_, hea⟩ := ok.each
    exact sub_bit hb (((hea q hq).b e).2 he)
/-- What was made stands as it is told. -/
theorem flt_keep (ok : PsOk P ops.toList ps) (hd : Down ops.toList (fun i => tb D i = true)) {p q : Pre} (hp : p ∈ ps) (hfl : p.fl = true) (hpD : tb D p.i = true) (hq : q ∈ ps) (hqD : tb D q.i = false) {F' : Fr} {u : V} (hF : F' = F ∨ ∃ d, q.o.dst = some d ∧ d < m ∧ F' = F.set d (some u)) {id : Nat} {v : V} {b : Blk}
    (h1 : fltD P F id p.o.op = some (v, b)) (h2 : ∀ d, p.o.dst = some d → F.get d = some v) : fltD P F' id p.o.op = some (v, b) ∧ ∀ d, p.o.dst = some d → F'.get d = some v := by
  rcases hF with rfl | ⟨d, hdst, _, rfl⟩
  · exact ⟨h1, h2⟩
  · obtain ⟨k1, k2, k3⟩ := ok.flt p hp hfl q hq d hdst
    obtain ⟨_, hea⟩ := ok.each
    refine ⟨(fltD_congr fun t ht => ?_).trans h1, fun e he => ?_⟩
    · rw [T.get_set_is k1]
      split
      · rename_i e
        subst e
        have h3 := (hea p hp).a _ hd (fun e he => hd _ _ (ok.at' hp) hpD e he) _ (k2 (tmps_mem ht))
        rw [hqD] at h3; cases h3
      · rfl
    · rw [T.get_set_is k1]
      split
      · rename_i e'
        subst e'
        have h3 := k3 he
        rw [h3, hqD] at hpD; cases hpD
      · exact h2 e he
theorem still_flt (ok : PsOk P ops.toList ps) {p : Pre} (hp : p ∈ ps) (h : p.st = true) : p.fl = false := by
  obtain ⟨_, hea⟩ := ok.each
  rw [(hea p hp).st] at h
  rw [(hea p hp).fl]
  have h := stays_still h
  cases hf : isFlt p.o with
  | false => simp
  | true =>
    unfold isFlt at hf
    simp only [Bool.and_eq_true] at hf
    have hf := hf.2
    split at hf
    · rename_i ho; rw [ho] at h; cases h
    · rename_i ho; rw [ho] at h; cases h
    · rename_i ho; rw [ho] at h; cases h
    · cases hf

section
variable {n0 base : Nat} {pd : List (Nat × Blk)} {pend : List Nat}
theorem Fly.ahead (h : Fly P ops ps listed D must n0 pd pend g F M w base) (ok : PsOk P ops.toList ps) {q : Pre} (hq : q ∈ ps) (hst : q.st = true) (hD : tb D q.i = false) (hb : sub q.b D = true) {F' : Fr} {u : V}
    (hF : F' = F ∨ ∃ d, q.o.dst = some d ∧ d < m ∧ F' = F.set d (some u)) : Fly P ops ps listed (bt D q.i) must n0 pd pend g F' M w base := by
  refine ⟨down_bt ok h.down hq hb, h.free, h.top, h.nodup, fun i hi => ?_, fun p hp hf hp' => ?_, h.park⟩
  · obtain ⟨p, hp, h1, h2, h3, h4, v, b, h5, h6, h7⟩ := h.each i hi
    subst h1
    obtain ⟨k1, k2⟩ := flt_keep ok h.down hp h2 h3 hq hD hF h6 h7
    exact ⟨p, hp, rfl, h2, by rw [bt_bit, h3]; rfl, h4, v, b, h5, k1, k2⟩
  · rw [bt_bit, Bool.or_eq_true, decide_eq_true_eq] at hp'
    rcases hp' with hp' | hp'
    · exact h.full p hp hf hp'
    · rw [(ok.same hq hp hp').2.2, still_flt ok hq hst] at hf; cases hf
theorem Fly.ahead_flt (h : Fly P ops ps listed D must n0 pd pend g F M w base) (ok : PsOk P ops.toList ps) (hI : Inv ops ps listed D must g F m a) {q : Pre} (hq : q ∈ ps) (hfl : q.fl = true) (hD : tb D q.i = false) (hb : sub q.b D = true) {v : V} {b : Blk} (hv : fltD P F (n0 + q.i) q.o.op = some (v, b)) {F' : Fr}
    (hF : (F' = F ∧ q.o.dst = none) ∨ ∃ d, q.o.dst = some d ∧ d < m ∧ F' = F.set d (some v)) : Fly P ops ps listed (bt D q.i) must n0 ((q.i, b) :: pd) (q.i :: pend) g F' M w base := by
  have hnl : ¬ Lst listed q.i := fun hl => by rw [hI.sub _ hl] at hD; cases hD
  have hnp : q.i ∉ pend := fun hm => by obtain ⟨_, _, _, _, h3, _⟩ := h.each _ hm; rw [hD] at h3; cases h3
  have hfb : ∀ i ∈ pend, findB i ((q.i, b) :: pd) = findB i pd := fun i hi => by
    unfold findB
    have : Nat.beq q.i i = false := by
      cases hbq : Nat.beq q.i i with
      | false => rfl
      | true => exact absurd ((Nat.eq_of_beq_eq_true hbq) ▸ hi) hnp
    rw [show (q.i, b).1 = q.i from rfl, this]
    cases pd <;> rfl
  have hF' : F' = F ∨ ∃ d, q.o.dst = some d ∧ d < m ∧ F' = F.set d (some v) := hF.imp (fun h => h.1) id
  obtain ⟨_, hea⟩ := ok.each
  have hqa : tb q.a q.i = false := by
    cases hqa : tb q.a q.i with
    | false => rfl
    | true =>
      have := (hea q hq).a _ h.down (fun e he => sub_bit hb (((hea q hq).b e).2 he)) _ hqa
      rw [hD] at this; cases this
  refine ⟨down_bt ok h.down hq hb, h.free, h.top, List.nodup_cons.2 ⟨hnp, h.nodup⟩, fun i hi => ?_, fun p hp hf hp' => ?_, ⟨fun i hi => ?_, fun i j x y hi hj => h.park.apart i j x y ?_ ?_⟩⟩
  · rcases List.mem_cons.1 hi with rfl | hi
    · have hmust : tb must q.i = false := by
        cases hm : tb must q.i with
        | false => rfl
        | true => exact absurd (hI.must _ hm) hnl
      refine ⟨q, hq, rfl, hfl, by rw [bt_bit]; simp, hmust, v, b, by unfold findB; rw [show Nat.beq (q.i, b).1 q.i = true from Nat.beq_refl _], ?_, fun d hd => ?_⟩
      · rcases hF with ⟨rfl, _⟩ | ⟨d, hd, _, rfl⟩
        · exact hv
        · obtain ⟨k1, k2, k3⟩ := ok.flt q hq hfl q hq d hd
          refine (fltD_congr fun t ht => ?_).trans hv
          rw [T.get_set_is k1]
          split
          · rename_i e; subst e
            rw [k2 (tmps_mem ht)] at hqa; cases hqa
          · rfl
      · rcases hF with ⟨rfl, hd'⟩ | ⟨e, hd', _, rfl⟩
        · rw [hd'] at hd; cases hd
        · rw [hd'] at hd; injection hd with hd; subst hd
          obtain ⟨k1, _, _⟩ := ok.flt q hq hfl q hq e hd'
          rw [T.get_set_is k1, if_pos rfl]
    · obtain ⟨p, hp, h1, h2, h3, h4, v', b', h5, h6, h7⟩ := h.each i hi
      subst h1
      obtain ⟨k1, k2⟩ := flt_keep ok h.down hp h2 h3 hq hD hF' h6 h7
      exact ⟨p, hp, rfl, h2, by rw [bt_bit, h3]; rfl, h4, v', b', (hfb _ hi).trans h5, k1, k2⟩
  · rw [bt_bit, Bool.or_eq_true, decide_eq_true_eq] at hp'
    rcases hp' with hp' | hp'
    · exact (h.full p hp hf hp').imp id (List.mem_cons_of_mem _)
    · exact .inr (by rw [hp']; exact List.mem_cons_self)
  · have hi' : i ∈ pend := by
      rcases List.mem_cons.1 hi.1 with e | hi'
      · exact absurd (e ▸ hi.2) hnl
      · exact hi'
    obtain ⟨x, c, k1, k2⟩ := h.park.is i ⟨hi', hi.2⟩
    exact ⟨x, c, (hfb i hi').trans k1, k2⟩
  · exact ⟨(List.mem_cons.1 hi.1).resolve_left fun e => hnl (e ▸ hi.2), hi.2⟩
  · exact ⟨(List.mem_cons.1 hj.1).resolve_left fun e => hnl (e ▸ hj.2), hj.2⟩
theorem lst_mono {i j : Nat} (h : Lst listed j) : Lst (listed.setIfInBounds i true) j := by
  by_cases hi : i < listed.size
  · exact (lst_set hi).2 (.inl h)
  · unfold Lst at *
    rw [Array.getElem?_setIfInBounds]
    split
    · rename_i e; subst e
      rw [Array.getElem?_eq_none (by omega)] at h; cases h
    · exact h
theorem Fly.still (h : Fly P ops ps listed D must n0 pd pend g F M w base) (ok : PsOk P ops.toList ps) (hs : listed.size = ops.size) {p : Pre} (hp : p ∈ ps) (hf : p.fl = false) : Fly P ops ps (listed.setIfInBounds p.i true) D must n0 pd pend g F M w base := by
  refine ⟨h.down, fun i hi hn => h.free i hi fun hl => hn (lst_mono hl), h.top, h.nodup, h.each, fun q hq hqf hqD => (h.full q hq hqf hqD).imp lst_mono id, h.park.less fun i hi => ⟨hi.1, ?_⟩⟩
  rcases (lst_set (by rw [hs]; exact ok.lt hp)).1 hi.2 with hl | e
  · exact hl
  · obtain ⟨q, hq, h1, h2, _⟩ := h.each i hi.1
    rw [(ok.same hp hq (by rw [h1, e])).2.2, hf] at h2; cases h2

/-- Between two operations that move. -/
theorem closed_wp (hG : GlobOk P w0) {g0 : Env} {M0 : Mm} {wr : World} (h0 : g0.top ≤ n0) (hbase : base = wr.heap.size) (ok : PsOk P ops.toList ps) {Q : Exit → Act → World → Prop}
    (hre : ∀ o ∈ openS ps D must, ∃ v, stillD P ops.toList o F M n = some v ∧ ∀ d, o.dst = some d → ∃ u, F.get d = some u ∧ sameV v u = true)
    (hact : ∀ listed a g w, Inv ops ps listed D must g F m a → Fly P ops ps listed D must n0 pd pend g F M w base → RM w0 g M n w → Mv g0 M0 wr g M w → ∀ p ∈ ps, tb D p.i = false → (∀ e ∈ bindOn p.o, Lst listed e) → ∀ fuel, (listed.setIfInBounds p.i true).toList.count false ≤ fuel → wpOp P ops Q p.i (wpAny P .any ops Q fuel (listed.setIfInBounds p.i true)) a w)
    (hfin : ∀ listed a g w, Inv ops ps listed D must g F m a → Fly P ops ps listed D must n0 pd pend g F M w base → RM w0 g M n w → Mv g0 M0 wr g M w → (∀ i, i < ops.size → Lst listed i) → Q .normal a w) :
    ∀ fuel listed a g w, Inv ops ps listed D must g F m a → Fly P ops ps listed D must n0 pd pend g F M w base → RM w0 g M n w → Mv g0 M0 wr g M w → listed.toList.count false ≤ fuel → wpAny P .any ops Q fuel listed a w := by
  intro fuel
  induction fuel with
  | zero =>
    intro listed a g w hI hY hM hm hc
    have hall := count_none hI.size (by omega)
    refine ⟨?_, hfin _ _ _ _ hI hY hM hm hall⟩
    rw [List.eq_nil_iff_forall_not_mem]
    intro i hi
    obtain ⟨o, ho, hn, _⟩ := (ready_iff hI.size).1 hi
    exact hn (hall i (Array.getElem?_eq_some_iff.1 ho).1)
  | succ fuel ih =>
    intro listed a g w hI hY hM hm hc
    refine ⟨fun hr => hfin _ _ _ _ hI hY hM hm (all_done ok hI.size hr), fun i hi => ?_⟩
    obtain ⟨o, ho, hn, hb⟩ := (ready_iff hI.size).1 hi
    have hio : i < ops.size := (Array.getElem?_eq_some_iff.1 ho).1
    have hcd := count_done (listed := listed) (by rw [hI.size]; exact hio) hn
    obtain ⟨p, hp, rfl⟩ := ok.full i (by simpa using hio)
    have hpo := ok.at' hp
    rw [Array.getElem?_toList, ho] at hpo
    injection hpo with hpo; subst hpo
    cases hD : tb D p.i with
    | false => exact hact listed a g w hI hY hM hm p hp hD hb fuel (by omega)
    | true =>
      cases hst : p.st with
      | true =>
        have hmust : tb must p.i = false := by
          cases hm : tb must p.i with
          | false => rfl
          | true => exact absurd (hI.must _ hm) hn
        obtain ⟨v, hv, hd⟩ := hre p.o (List.mem_map.2 ⟨p, List.mem_filter.2 ⟨hp, by rw [hD, hmust, hst]; rfl⟩, rfl⟩)
        obtain ⟨_, hea⟩ := ok.each
        unfold wpOp
        rw [ho]
        refine oper_wp (noCall_good hG) hM (hI.slots ok hp hb) hv fun v' M' n' g' w' cv hK hv' hM' hm' hs => ?_
        obtain ⟨rfl, rfl, rfl, rfl⟩ := hs (stays_still ((hea p hp).st.symm.trans hst))
        injection hK with hK; subst hK
        refine ih _ _ _ _ (hI.after ok hp hD hb fun d hd' => ?_) (hY.still ok hI.size hp (still_flt ok hp hst)) hM hm (by omega)
        obtain ⟨u, k1, k2⟩ := hd d hd'
        exact ⟨u, k1, sameV_rep k2 hv'⟩
      | false =>
        cases hfl : p.fl with
        | false => exact absurd (hI.acts p hp hD hst hfl) hn
        | true =>
          have hpm : p.i ∈ pend := (hY.full p hp hfl hD).resolve_left hn
          obtain ⟨p', hp', e1, e2, e3, e4, v, b, e5, e6, e7⟩ := hY.each _ hpm
          rw [(ok.same hp hp' e1.symm).1] at e6 e7
          obtain ⟨cells, ty, cv, hrun, hrep⟩ := flt_run (a := a) hM ((hI.slots ok hp hb).ev fun t ht => tmps_mem ht) e6
          have hgn := hY.free p.i hio hn
          have hsub := putG_sub (x := ⟨w.heap.size, 0, cells.size⟩) hgn
          obtain ⟨k1, k2⟩ := hrep _ hsub putG_new
          obtain ⟨m1, m2, m3⟩ := park_new (ty := ty) hM hm hY.park (by rw [hbase]; exact hm.size) hgn (by have := hY.top; omega) h0 e5 k2
          obtain ⟨_, hea⟩ := ok.each
          have hg : p.o.guard = none := by
            have := (hea p hp).fl
            rw [hfl] at this
            have : isFlt p.o = true := by
              have := this.symm
              rw [Bool.and_eq_true] at this
              exact this.2
            unfold isFlt at this
            simp only [Bool.and_eq_true, Option.isNone_iff_eq_none] at this
            exact this.1.1
          unfold wpOp
          rw [ho]
          have hwant : Region.wanted p.o (yielded ops a.tmps) = true := by unfold Region.wanted; rw [hg]
          simp only [hwant, if_true]
          refine .inl ?_
          unfold Oper.wp
          rw [hrun]
          show wpAny P .any ops Q fuel _ _ _
          refine ih _ _ _ _ ((hI.mono hsub).after ok hp hD hb fun d hd => ⟨v, e7 d hd, k1⟩) ⟨hY.down, fun j hj hnj => ?_, hY.top, hY.nodup, hY.each, fun q hq hqf hqD => (hY.full q hq hqf hqD).imp lst_mono id, m3.less fun j hj => ?_⟩ m1 m2 (by omega)
          · have hne : j ≠ p.i := fun e => hnj ((lst_set (by rw [hI.size]; exact hio)).2 (.inr e))
            rw [putG_other (by omega)]
            exact hY.free j hj fun hl => hnj (lst_mono hl)
          · rcases (lst_set (by rw [hI.size]; exact hio)).1 hj.2 with hl | e
            · exact .inl ⟨hj.1, hl⟩
            · exact .inr e
end

theorem planB_wp {call : CallT A} (hcall : CallGood P w0 call) (ok : PsOk P ops.toList ps) {g0 : Env} {M0 : Mm} {wr : World} {n0 base : Nat} (h0 : g0.top ≤ n0) (hbase : base = wr.heap.size) {K : Fr → Mm → Nat → Option A} {Q : Exit → Act → World → Prop}
    (hQ : ∀ F' M' n' g' a' w', K F' M' n' = some r → RF g' F' m a' → RM w0 g' M' n' w' → Mv g0 M0 wr g' M' w' → Q .normal a' w') :
    ∀ {k : Nat} {D must : Nat} {pend : List Nat} {pd : List (Nat × Blk)} {pl : Plan} {F : Fr} {M : Mm} {n : Nat} {g : Env} {a : Act} {w : World} {listed : Array Bool} {fuel : Nat},
    mkPlan ps k D must pend = some pl → planB P call m n0 ops.toList K pl pd F M n = some r → Inv ops ps listed D must g F m a → Fly P ops ps listed D must n0 pd pend g F M w base → RM w0 g M n w → Mv g0 M0 wr g M w → listed.toList.count false ≤ fuel → wpAny P .any ops Q fuel listed a w
  | 0, _, _, _, _, _, _, _, _, _, _, _, _, _, h, _, _, _, _, _, _ => by cases h
  | k + 1, D, must, pend, pd, pl, F, M, n, g, a, w, listed, fuel, h, hp, hI, hY, hM, hm, hc => by
    obtain ⟨_, hea⟩ := ok.each
    have put : ∀ {q : Pre} {v : V} {K' : Fr → Option A}, putK m F q.o.dst v K' = some r → ∃ F', K' F' = some r ∧ ((F' = F ∧ q.o.dst = none) ∨ ∃ d, q.o.dst = some d ∧ d < m ∧ F' = F.set d (some v)) := fun {q v K'} hp => by
      rcases putK_some hp with ⟨hd, hp⟩ | ⟨d, hd, hlt, hp⟩
      · exact ⟨F, hp, .inl ⟨rfl, hd⟩⟩
      · exact ⟨_, hp, .inr ⟨d, hd, hlt, rfl⟩⟩
    rw [mkPlan] at h
    split at h
    · rename_i p hf
      rw [forceN_eq] at h
      split at h
      · rename_i q hq
        injection h with h; subst h
        have hmem := List.mem_of_find?_eq_some hf
        have hpr := List.find?_some hf
        simp only [rdy, Bool.and_eq_true, Bool.not_eq_true'] at hpr
        rw [planB] at hp
        replace hp := ob_some hp; obtain ⟨v, hv, hp⟩ := hp
        obtain ⟨F', hp, hF'⟩ := put hp
        have hF'' : F' = F ∨ ∃ d, p.o.dst = some d ∧ d < m ∧ F' = F.set d (some v) := hF'.imp (fun h => h.1) id
        exact planB_wp hcall ok h0 hbase hQ hq hp (hI.ahead ok hmem (.inl hpr.2) hpr.1.1 hF'') (hY.ahead ok hmem hpr.2 hpr.1.1 hpr.1.2 hF'') hM hm hc
      · cases h
    · split at h
      · rename_i p hf
        rw [forceN_eq] at h
        split at h
        · rename_i q hq
          injection h with h; subst h
          have hmem := List.mem_of_find?_eq_some hf
          have hpr := List.find?_some hf
          simp only [rdy, Bool.and_eq_true, Bool.not_eq_true'] at hpr
          rw [planB] at hp
          replace hp := ob_some hp; obtain ⟨⟨v, b⟩, hv, hp⟩ := hp
          obtain ⟨F', hp, hF'⟩ := put hp
          have hF'' : F' = F ∨ ∃ d, p.o.dst = some d ∧ d < m ∧ F' = F.set d (some v) := hF'.imp (fun h => h.1) id
          exact planB_wp hcall ok h0 hbase hQ hq hp (hI.ahead ok hmem (.inr hpr.2) hpr.1.1 hF'') (hY.ahead_flt ok hI hmem hpr.2 hpr.1.1 hpr.1.2 hv hF') hM hm hc
        · cases h
      · rename_i hnof
        split at h
        · rename_i hnil
          injection h with h; subst h
          rw [planB] at hp
          obtain ⟨hK, hre⟩ := recheck_some hp
          refine closed_wp hcall.1 h0 hbase ok hre (fun listed a g w hI hY hM hm p hp hD hb fuel hc => ?_) (fun listed a g w hI hY hM hm hall => ?_) fuel listed a g w hI hY hM hm hc
          · have : p ∈ ps.filter (rdy D) := List.mem_filter.2 ⟨hp, by
              unfold rdy
              rw [hD, Bool.not_false, Bool.true_and]
              exact sub_of fun i hi => hI.sub i (hb i (((hea p hp).b i).1 hi))⟩
            rw [hnil] at this; cases this
          · have hpl : ∀ i ∈ pend, i ∈ pend ∧ Lst listed i := fun i hi => by
              obtain ⟨q, hq, e, _⟩ := hY.each i hi
              exact ⟨hi, hall i (by rw [← e]; exact ok.lt hq)⟩
            obtain ⟨M', hK', hM', hm', _⟩ := reveal_some hK hY.nodup hpl hY.park hM hm hbase
            exact hQ F M' n g a w hK' ⟨hI.sz, fun t v hv => hI.slot t v hv fun q hq _ _ => hall _ (ok.lt hq), hI.defers, hI.lt⟩ hM' hm'
        · rename_i p hone
          rw [forceN_eq, forceN_eq] at h
          split at h
          · rename_i q hq
            injection h with h; subst h
            rw [planB] at hp
            obtain ⟨hK, hre⟩ := recheck_some hp
            have hpm : p ∈ ps ∧ rdy D p = true := by
              have : p ∈ ps.filter (rdy D) := by rw [hone]; exact List.mem_cons_self
              exact List.mem_filter.1 this
            have hpD : tb D p.i = false := by have := hpm.2; simp only [rdy, Bool.and_eq_true, Bool.not_eq_true'] at this; exact this.1
            have hpb : sub p.b D = true := by have := hpm.2; simp only [rdy, Bool.and_eq_true, Bool.not_eq_true'] at this; exact this.2
            have hpf : p.fl = false := by
              cases hpf : p.fl with
              | false => rfl
              | true =>
                have := List.find?_eq_none.1 hnof p hpm.1
                rw [hpm.2, hpf] at this
                exact absurd rfl this
            have hpo := ok.at' hpm.1
            rw [Array.getElem?_toList] at hpo
            refine closed_wp hcall.1 h0 hbase ok hre (fun listed a g w hI hY hM hm p' hp' hD hb fuel hc => ?_) (fun listed a g w hI hY hM hm hall => ?_) fuel listed a g w hI hY hM hm hc
            · have hp'm : p' ∈ ps.filter (rdy D) := List.mem_filter.2 ⟨hp', by
                unfold rdy
                rw [hD, Bool.not_false, Bool.true_and]
                exact sub_of fun i hi => hI.sub i (hb i (((hea p' hp').b i).1 hi))⟩
              rw [hone, List.mem_singleton] at hp'm
              subst hp'm
              have hmust' : ∀ i, tb (Nat.lor (bt must p'.i) p'.a) i = true → Lst listed i ∨ i = p'.i := fun i hi => by
                rw [lor_bit, bt_bit, Bool.or_eq_true, Bool.or_eq_true, decide_eq_true_eq] at hi
                rcases hi with (hi | hi) | hi
                · exact .inl (hI.must i hi)
                · exact .inr hi.symm
                · exact .inl ((hea p' hp').a _ hI.down hb _ hi)
              have hnotp : ∀ i ∈ pend, i ≠ p'.i := fun i hi e => by
                obtain ⟨_, _, _, _, h3, _⟩ := hY.each i hi
                rw [e, hD] at h3; cases h3
              obtain ⟨M1, hK1, hM1, hm1, hp1⟩ := reveal_some hK (hY.nodup.filter _) (fun i hi => by
                rw [List.mem_filter] at hi
                exact ⟨hi.1, (hmust' i hi.2).resolve_right (hnotp i hi.1)⟩) hY.park hM hm hbase
              unfold wpOp
              rw [hpo]
              refine oper_wp hcall hM1 (hI.slots ok hp' hb) hK1 fun v M' n' g' w' cv hK hv hM' hm' _ => ?_
              obtain ⟨F', hK, hF'⟩ := put hK
              have hF'' : F' = F ∨ ∃ d, p'.o.dst = some d ∧ d < m ∧ F' = F.set d (some v) := hF'.imp (fun h => h.1) id
              have hI' : Inv ops ps (listed.setIfInBounds p'.i true) (bt D p'.i) (Nat.lor (bt must p'.i) p'.a) g' F' m (a.put p'.o.dst cv) := by
                have hpk : putK m F p'.o.dst v some = some F' := by
                  rcases hF' with ⟨rfl, hd⟩ | ⟨d, hd, hlt, rfl⟩
                  · rw [hd]; rfl
                  · rw [hd]
                    show bb (Nat.ble (Nat.succ d) m) (T.setK 64 F d (some v) some) = _
                    rw [show Nat.ble (Nat.succ d) m = true from Nat.ble_eq_true_of_le hlt]
                    show T.setK 64 F d (some v) some = _
                    rw [T.setK_set]
                obtain ⟨F2, e, hI2⟩ := (hI.mono hm'.ext).both ok hp' hb hv hpk
                injection e with e
                rw [← e]; exact hI2
              have htop : ∀ i ∈ pend, n0 + i < g.top := fun i hi => by
                obtain ⟨q, hq, e, _⟩ := hY.each i hi
                have := ok.lt hq
                have := hY.top
                omega
              refine planB_wp hcall ok h0 hbase hQ hq hK hI' ⟨down_bt ok hY.down hp' hpb, fun i hi hn => ?_, Nat.le_trans hY.top hm'.up, hY.nodup.filter _, fun i hi => ?_, fun q' hq' hqf hqD => ?_, ?_⟩ hM' (hm1.trans hm') hc
              · rw [hm'.low _ (by have := hY.top; omega)]
                exact hY.free i hi fun hl => hn (lst_mono hl)
              · rw [List.mem_filter] at hi
                obtain ⟨q', hq', h1, h2, h3, h4, v', b', h5, h6, h7⟩ := hY.each i hi.1
                subst h1
                obtain ⟨k1, k2⟩ := flt_keep ok hY.down hq' h2 h3 hp' hD hF'' h6 h7
                exact ⟨q', hq', rfl, h2, by rw [bt_bit, h3]; rfl, by simpa using hi.2, v', b', h5, k1, k2⟩
              · rw [bt_bit, Bool.or_eq_true, decide_eq_true_eq] at hqD
                rcases hqD with hqD | hqD
                · rcases hY.full q' hq' hqf hqD with hl | hl
                  · exact .inl (lst_mono hl)
                  · cases hmm : tb (Nat.lor (bt must p'.i) p'.a) q'.i with
                    | true => exact .inl (hI'.must _ hmm)
                    | false => exact .inr (List.mem_filter.2 ⟨hl, by rw [hmm]; rfl⟩)
                · rw [(ok.same hp' hq' hqD).2.2, hpf] at hqf; cases hqf
              · refine (hp1.mv hM1 hm' fun i hi => htop i hi.1.1).less fun i hi => ?_
                have hi1 := List.mem_filter.1 hi.1
                have hl : Lst listed i := by
                  rcases (lst_set (by rw [hI.size]; exact ok.lt hp')).1 hi.2 with hl | e
                  · exact hl
                  · exact absurd e (hnotp i hi1.1)
                refine ⟨⟨hi1.1, hl⟩, fun hm2 => ?_⟩
                have := (List.mem_filter.1 hm2).2
                have h2 := hi1.2
                rw [this] at h2; cases h2
            · have := hI.sub _ (hall p.i (Array.getElem?_eq_some_iff.1 hpo).1)
              rw [hpD] at this; cases this
          · cases h
        · cases h

/-- A region that draws. -/
theorem draw_wp {call : CallT A} (hcall : CallGood P w0 call) {id : Nat} {K : Fr → Mm → Nat → Option A} {Q : Exit → Act → World → Prop} (h : drawB P call m ops.toList F M n K = some r) (hM : RM w0 g M n w) (hF : RF g F m a)
    (hQ : ∀ F' M' n' g' a' w', K F' M' n' = some r → RF g' F' m a' → RM w0 g' M' n' w' → Mv g M w g' M' w' → Q .normal a' w') : (Code.region id ops true).wp P Q a w := by
  unfold drawB at h
  replace h := ob_some h; obtain ⟨pl, hpl, h⟩ := h
  obtain ⟨ps, ok, hmix, hpl⟩ := planOf_some hpl
  refine wp_region_any hmix ?_
  have hnl : ∀ i, ¬ Lst (Array.replicate ops.size false) i := fun i hi => by
    unfold Lst at hi
    rw [Array.getElem?_replicate] at hi
    split at hi
    · injection hi with hi; cases hi
    · cases hi
  let g1 : Env := ⟨g.f, n + ops.toList.length⟩
  have hs1 : Sub g g1 := fun _ _ h => h
  let w1 : World := { w with drawn := w.drawn + 1 }
  have hM1 : RM w0 g M n w1 := hM.world rfl rfl rfl rfl
  have hgt := hM.top
  have hM' : RM w0 g1 M (n + ops.toList.length) w1 := ⟨fun id b hb => by obtain ⟨x, hx, hr⟩ := hM1.rep id b hb; exact ⟨x, hx, hr.ext hs1 rfl⟩, hM1.inj, fun id x hx => by have := hM1.lt id x hx; exact ⟨by omega, this.2⟩, hM1.size, hM1.old, hM1.tape, hM1.os, hM1.output, rfl⟩
  have hm' : Mv g M w g1 M w1 := ⟨hs1, Nat.le_refl _, fun _ _ _ => rfl, fun id x c h1 h2 _ => ⟨id, x, c, h1, h2, rfl⟩, fun _ _ => rfl, by show g.top ≤ n + ops.toList.length; omega⟩
  have hI : Inv ops ps (Array.replicate ops.size false) 0 0 g1 F m a :=
    ⟨by simp, fun i hi => absurd hi (hnl i), fun p _ h => absurd h (by rw [tb_zero]; simp), fun i o _ hi => absurd hi (hnl i), fun i h => absurd h (by rw [tb_zero]; simp), hF.sz, hF.defers, hF.lt, fun t v hv _ => (hF.tmp t v hv).mono hs1⟩
  have hY : Fly P ops ps (Array.replicate ops.size false) 0 0 n [] [] g1 F M w1 w.heap.size :=
    ⟨fun i o _ h => absurd (show tb 0 i = true from h) (by rw [tb_zero]; simp), fun i hi _ => by
      cases hg : g1 (n + i) with
      | none => rfl
      | some x => have := (hM1.lt (n + i) x hg).1; omega, by show n + ops.size ≤ n + ops.toList.length; simp, List.nodup_nil, (fun i hi => by cases hi), fun p _ _ h => absurd h (by rw [tb_zero]; simp), ⟨(fun i hi => by cases hi.1), (fun i j x y hi => by cases hi.1)⟩⟩
  exact planB_wp hcall ok (n0 := n) (by omega) rfl hQ hpl h hI hY hM' hm' (by simp)
end Go.Eb

/-
The closed evaluator: code, calls.
-/
set_option linter.unusedVariables false
set_option linter.unusedSimpArgs false
namespace Go.Eb
variable {A : Type} {P : Program} {w0 : World} {g : Env} {F : Fr} {M : Mm} {n m : Nat} {a : Act} {w : World} {r : A}

/-- What code is asked for. -/
def CodeQ (w0 : World) (g : Env) (M : Mm) (w : World) (m : Nat) (r : A) (K : ExitK A) (Q : Exit → Act → World → Prop) : Prop :=
  ∀ e F' M' n' g' a' w', K e F' M' n' = some r → RF g' F' m a' → RM w0 g' M' n' w' → Mv g M w g' M' w' → Q e a' w'
theorem CodeQ.after {g' : Env} {M' : Mm} {w' : World} {K : ExitK A} {Q : Exit → Act → World → Prop} (h : CodeQ w0 g M w m r K Q) (hm : Mv g M w g' M' w') : CodeQ w0 g' M' w' m r K Q :=
  fun e F2 M2 n2 g2 a2 w2 h1 h2 h3 h4 => h e F2 M2 n2 g2 a2 w2 h1 h2 h3 (hm.trans h4)

theorem codeB_wp [Subsingleton A] {call : CallT A} (hcall : CallGood P w0 call) : ∀ (c : Code) {F : Fr} {M : Mm} {n : Nat} {g : Env} {a : Act} {w : World} {K : ExitK A} {Q : Exit → Act → World → Prop},
    codeB P call m c F M n K = some r → RM w0 g M n w → RF g F m a → CodeQ w0 g M w m r K Q → c.wp P Q a w := by
  intro c
  induction c with
  | skip =>
    intro F M n g a w K Q h hM hF hQ
    rw [codeB] at h
    exact wp_skip (hQ _ _ _ _ _ _ _ h hF hM (.refl g M w))
  | region id ops draw =>
    intro F M n g a w K Q h hM hF hQ
    rw [codeB] at h
    cases draw with
    | true => exact draw_wp hcall h hM hF fun F' M' n' g' a' w' h1 h2 h3 h4 => hQ _ _ _ _ _ _ _ h1 h2 h3 h4
    | false => exact region_wp hcall h hM hF fun F' M' n' g' a' w' h1 h2 h3 h4 => hQ _ _ _ _ _ _ _ h1 h2 h3 h4
  | seq x y ihx ihy =>
    intro F M n g a w K Q h hM hF hQ
    rw [codeB] at h
    refine wp_seq (ihx h hM hF fun e F' M' n' g' a' w' h1 h2 h3 h4 => ?_)
    cases e with
    | normal => exact ihy h1 h3 h2 (hQ.after h4)
    | exit _ => exact hQ _ _ _ _ _ _ _ h1 h2 h3 h4
    | goto _ => exact hQ _ _ _ _ _ _ _ h1 h2 h3 h4
    | ret => exact hQ _ _ _ _ _ _ _ h1 h2 h3 h4
    | panic _ => exact hQ _ _ _ _ _ _ _ h1 h2 h3 h4
    | outgrown => exact hQ _ _ _ _ _ _ _ h1 h2 h3 h4
  | cond c x y ihx ihy =>
    intro F M n g a w K Q h hM hF hQ
    rw [codeB] at h
    cases hc : opnd F c with
    | none => rw [hc] at h; cases h
    | some v =>
      have hv := hF.eval hc
      rw [hc] at h
      cases v with
      | bool b =>
        have he : a.eval c = .bool b := by generalize a.eval c = z at hv; cases hv; rfl
        cases b with
        | true => exact wp_cond_true he (ihx h hM hF hQ)
        | false => exact wp_cond_false he (ihy h hM hF hQ)
      | anyb =>
        replace h := ob_some h; obtain ⟨r1, h1, h2⟩ := h
        obtain rfl : r1 = r := Subsingleton.elim _ _
        generalize hz : a.eval c = z at hv
        cases hv with | anyb b =>
          cases b with
          | true => exact wp_cond_true hz (ihx h1 hM hF hQ)
          | false => exact wp_cond_false hz (ihy h2 hM hF hQ)
      | _ => cases h
  | block id c ih =>
    intro F M n g a w K Q h hM hF hQ
    rw [codeB] at h
    refine wp_block (ih h hM hF fun e F' M' n' g' a' w' h1 h2 h3 h4 => ?_)
    cases e with
    | normal => exact hQ _ _ _ _ _ _ _ h1 h2 h3 h4
    | exit i =>
      unfold blockK at h1
      simp only at h1
      show if i = id then Q .normal a' w' else Q (.exit i) a' w'
      split at h1
      · rename_i hi
        rw [if_pos (Nat.eq_of_beq_eq_true hi)]
        exact hQ _ _ _ _ _ _ _ h1 h2 h3 h4
      · rename_i hi
        rw [if_neg (Nat.ne_of_beq_eq_false hi)]
        exact hQ _ _ _ _ _ _ _ h1 h2 h3 h4
    | goto _ => exact hQ _ _ _ _ _ _ _ h1 h2 h3 h4
    | ret => exact hQ _ _ _ _ _ _ _ h1 h2 h3 h4
    | panic _ => exact hQ _ _ _ _ _ _ _ h1 h2 h3 h4
    | outgrown => exact hQ _ _ _ _ _ _ _ h1 h2 h3 h4
  | loop c ih =>
    intro F M n g a w K Q h hM hF hQ
    rw [codeB] at h
    have key : ∀ (fuel : Nat) {F : Fr} {M : Mm} {n : Nat} {g : Env} {a : Act} {w : World}, loopB fuel (codeB P call m c) F M n K = some r → RM w0 g M n w → RF g F m a → CodeQ w0 g M w m r K Q → Code.rounds P c Q fuel a w := by
      intro fuel
      induction fuel with
      | zero => intro F M n g a w h; cases h
      | succ fuel ihf =>
        intro F M n g a w h hM hF hQ
        have h : codeB P call m c F M n (seqK (loopB fuel (codeB P call m c) · · · K) K) = some r := h
        refine ih h hM hF fun e F' M' n' g' a' w' h1 h2 h3 h4 => ?_
        cases e with
        | normal => exact ihf h1 h3 h2 (hQ.after h4)
        | exit _ => exact hQ _ _ _ _ _ _ _ h1 h2 h3 h4
        | goto _ => exact hQ _ _ _ _ _ _ _ h1 h2 h3 h4
        | ret => exact hQ _ _ _ _ _ _ _ h1 h2 h3 h4
        | panic _ => exact hQ _ _ _ _ _ _ _ h1 h2 h3 h4
        | outgrown => exact hQ _ _ _ _ _ _ _ h1 h2 h3 h4
    exact wp_loop_rounds _ (key _ h hM hF hQ)
  | exit id =>
    intro F M n g a w K Q h hM hF hQ
    rw [codeB] at h
    exact wp_exit (hQ _ _ _ _ _ _ _ h hF hM (.refl g M w))
  | ret =>
    intro F M n g a w K Q h hM hF hQ
    rw [codeB] at h
    exact wp_ret (hQ _ _ _ _ _ _ _ h hF hM (.refl g M w))
  | _ => intro F M n g a w K Q h hM hF hQ; unfold codeB at h; cases h

theorem ress_run (hG : GlobOk P w0) (hM : RM w0 g M n w) (hF : RF g F m a) : ∀ {rs : List ResultVar} {K : List V → Option A}, ressK P F M n rs K = some r → ∃ vs cvs, K vs = some r ∧ (rs.mapM (m := Sem) fun
      | .tmp t => pure (a.tmps.getD t undef)
      | .cell b t => do loadVar t (← asAddr (a.tmps.getD b undef))).run P w = .ok cvs w ∧ RepL g vs cvs
  | [], K, h => ⟨[], [], h, by simp, .nil⟩
  | .tmp t :: rs, K, h => by
    have h : ob (F.get t) (fun v => ressK P F M n rs fun vs => K (v :: vs)) = some r := h
    replace h := ob_some h; obtain ⟨v, hv, h⟩ := h
    obtain ⟨vs, cvs, h1, h2, h3⟩ := ress_run hG hM hF h
    refine ⟨v :: vs, a.tmps.getD t undef :: cvs, h1, ?_, .cons (hF.tmp t v hv) h3⟩
    simp only [List.mapM_cons, Sem.run_bind, Sem.run_pure, Result.andThen_ok, h2]
  | .cell b t :: rs, K, h => by
    have h : ob (F.get b) (fun p => loadB P M n t p fun v _ _ => ressK P F M n rs fun vs => K (v :: vs)) = some r := h
    replace h := ob_some h; obtain ⟨p, hp, h⟩ := h
    obtain ⟨v, cv, h1, h2, h3, _⟩ := loadB_did hG hM (hF.tmp b p hp) h
    obtain ⟨vs, cvs, h4, h5, h6⟩ := ress_run hG hM hF h1
    refine ⟨v :: vs, cv :: cvs, h4, ?_, .cons h3 h6⟩
    have hrep := hF.tmp b p hp
    simp only [List.mapM_cons, Sem.run_bind]
    generalize a.tmps.getD b undef = cp at hrep h2 ⊢
    unfold loadB at h
    split at h
    · cases hrep
      rw [Ev.loadAt_run] at h2
      simp only [Sem.run_bind, Sem.run_pure, Result.andThen_ok, asAddr, h2]
      erw [h5]
      rfl
    · cases hrep
      rw [Ev.loadAt_run] at h2
      simp only [Sem.run_bind, Sem.run_pure, Result.andThen_ok, asAddr, h2]
      erw [h5]
      rfl
    · cases h
theorem one_rep {vs : List V} {cvs : Array Value} (h : RepL g vs cvs.toList) : Rep g (one vs) (if h : cvs.size = 1 then cvs[0] else .tuple cvs) := by
  have hl : vs.length = cvs.size := by rw [h.length]; simp
  split
  · rename_i h1
    cases vs with
    | nil => simp at hl; omega
    | cons v r =>
      cases r with
      | cons _ _ => simp at hl; omega
      | nil =>
        obtain ⟨cv, e1, h2⟩ := h.inv1
        have : cvs[0] = cv := by
          have : cvs.toList[0]? = some cv := by rw [e1]; rfl
          simp at this
          rw [Array.getElem?_eq_getElem (by omega)] at this
          injection this
        rw [this]
        exact h2
  · rename_i h1
    have : one vs = .tup vs := by
      cases vs with
      | nil => rfl
      | cons v r =>
        cases r with
        | nil => simp at hl; omega
        | cons _ _ => rfl
    rw [this]
    exact .tup h
theorem ret_run (hG : GlobOk P w0) {fn : Func} {K : V → Mm → Nat → Option A} (hM : RM w0 g M n w) (hF : RF g F m a) (h : retB P F M n fn.results.toList K = some r) : ∃ v cv, K v M n = some r ∧ (results fn a.tmps).run P w = .ok cv w ∧ Rep g v cv := by
  obtain ⟨vs, cvs, h1, h2, h3⟩ := ress_run hG hM hF h
  refine ⟨one vs, (if h : cvs.toArray.size = 1 then cvs.toArray[0] else .tuple cvs.toArray), h1, ?_, one_rep (by simpa using h3)⟩
  unfold results
  rw [Sem.run_bind]
  have : ((fn.results.mapM (m := Sem) fun
      | .tmp t => pure (a.tmps.getD t undef)
      | .cell b t => do loadVar t (← asAddr (a.tmps.getD b undef))) : Sem (Array Value)).run P w = .ok cvs.toArray w := by
    rw [Array.mapM_eq_mapM_toList]
    show ((List.toArray <$> _ : Sem (Array Value))).run P w = _
    rw [map_eq_pure_bind, Sem.run_bind]
    erw [h2]
    rfl
  erw [this]
  rfl

theorem argsK_some : ∀ {vs : List V} {i : Nat} {F : Fr} {K : Fr → Option A}, argsK vs i F K = some r → ∃ F', K F' = some r ∧ ∀ t v, F'.get t = some v → F.get t = some v ∨ (i ≤ t ∧ vs[t - i]? = some v)
  | [], i, F, K, h => ⟨F, h, fun t v h => .inl h⟩
  | x :: vs, i, F, K, h => by
    have h : T.setK 64 F i (some x) (fun F => argsK vs (Nat.succ i) F K) = some r := h
    rw [T.setK_set] at h
    obtain ⟨F', h1, h2⟩ := argsK_some h
    refine ⟨F', h1, fun t v ht => ?_⟩
    rcases h2 t v ht with h3 | ⟨h3, h4⟩
    · rcases T.get_set h3 with ⟨rfl, e⟩ | ⟨_, h3⟩
      · exact .inr ⟨Nat.le_refl _, by simpa using e⟩
      · exact .inl h3
    · refine .inr ⟨by omega, ?_⟩
      have : t - i = (t - Nat.succ i) + 1 := by omega
      rw [this, List.getElem?_cons_succ]; exact h4

theorem bodyOf_some {f : FuncId} {fc : Func × Code} (h : bodyOf P f = some fc) : P.funcs[f]? = some fc.1 ∧ fc.1.body = some fc.2 ∧ (fc.1.name == "runtime.NumGoroutine") = false := by
  unfold bodyOf at h
  split at h
  · rename_i fn hf
    split at h
    · rename_i c hc
      split at h
      · cases h
      · rename_i hn
        injection h with h; subst h
        exact ⟨hf, hc, hn⟩
    · cases h
  · cases h

/-- What becomes of the world in a call that keeps to itself. -/
structure Aside (w w' : World) : Prop where
  size : w.heap.size ≤ w'.heap.size
  old : ∀ b, b < w.heap.size → w'.heap[b]? = w.heap[b]?
  tape : w'.tape = w.tape
  os : w'.os = w.os
  output : w'.output = w.output
def KnOk (P : Program) (f : FuncId) : KS → Prop
  | .tru => ∀ w, GlobOk P w → Calls P f #[] w fun e w' => Aside w w' ∧ e = .returned (.bool true)
  | .idstr => ∀ w s, s.size ≤ 140737488355328 → GlobOk P w → Calls P f #[.string s] w fun e w' => Aside w w' ∧ e = .returned (.string s)
  | .res v b => ∀ w, GlobOk P w → Calls P f #[] w fun e w' => Aside w w' ∧ ∃ x cv, e = .returned cv ∧ w.heap.size ≤ x.blk ∧ x.blk < w'.heap.size ∧ ∀ (g : Env) (id : Nat), g id = some x → Rep g (shiftV id v) cv ∧ BlkRep g w'.heap x b
/-- What is known of some functions. -/
def Known (P : Program) (kn : List (Nat × KS)) : Prop := ∀ f k, knOf f kn = some k → (∃ fn c, P.funcs[f]? = some fn ∧ fn.body = some c ∧ (fn.name == "runtime.NumGoroutine") = false) ∧ KnOk P f k
theorem RM.grow {w' : World} (h : RM w0 g M n w) (ha : Aside w w') : RM w0 g M n w' ∧ Mv g M w g M w' := by
  refine ⟨⟨fun id b hb => ?_, h.inj, fun id x hx => ?_, Nat.le_trans h.size ha.size, fun b hb => ?_, ha.tape.trans h.tape, ha.os.trans h.os, ha.output.trans h.output, h.top⟩, ⟨.refl g, ha.size, fun b hb _ => ha.old b hb, fun id x c hc hx _ => ⟨id, x, c, hc, hx, rfl⟩, fun _ _ => rfl, Nat.le_refl _⟩⟩
  · obtain ⟨x, hx, hr⟩ := h.rep id b hb
    exact ⟨x, hx, hr.ext (.refl g) (ha.old _ (h.lt id x hx).2.2)⟩
  · have := h.lt id x hx
    exact ⟨this.1, this.2.1, by have := ha.size; omega⟩
  · rw [ha.old b (Nat.lt_of_lt_of_le hb h.size)]; exact h.old b hb
/-- A block that another call has made. -/
theorem RM.adopt {w' : World} (h : RM w0 g M n w) (ha : Aside w w') {b : Blk} {x : Lc} (hx : w.heap.size ≤ x.blk) (hx' : x.blk < w'.heap.size) (hb : BlkRep (updG g n x) w'.heap x b) :
    RM w0 (updG g n x) (M.set n (some b)) (n + 1) w' ∧ Mv g M w (updG g n x) (M.set n (some b)) w' := by
  have hs := h.sub x
  have hn : ∀ c, M.get n = some c → False := fun c hc => by obtain ⟨y, hy, _⟩ := h.rep n c hc; have := (h.lt n y hy).1; omega
  have key : ∀ i c, (M.set n (some b)).get i = some c → (i = n ∧ c = b) ∨ (i ≠ n ∧ M.get i = some c) := fun i c hi => by
    rcases T.get_set hi with ⟨h1, h2⟩ | h
    · injection h2 with h2; exact .inl ⟨h1, h2.symm⟩
    · exact .inr h
  have gold : ∀ i y, i ≠ n → updG g n x i = some y → g i = some y := fun i y hi hy => by rw [updG_other hi] at hy; exact hy
  have gnew : ∀ y, updG g n x n = some y → y = x := fun y hy => by rw [updG_new] at hy; injection hy with hy; exact hy.symm
  have hsz := ha.size
  refine ⟨⟨fun i c hi => ?_, fun i j y z c d hi hj hy hz e => ?_, fun i y hy => ?_, Nat.le_trans h.size hsz, fun k hk => ?_, ha.tape.trans h.tape, ha.os.trans h.os, ha.output.trans h.output, rfl⟩, ⟨hs, hsz, fun k hk _ => ha.old k hk, fun i y c hi hy hyl => ?_, fun i hi => updG_other (by have := h.top; omega), by show g.top ≤ n + 1; have := h.top; omega⟩⟩
  · rcases key i c hi with ⟨rfl, rfl⟩ | ⟨hne, hi⟩
    · exact ⟨x, updG_new, hb⟩
    · obtain ⟨y, hy, hr⟩ := h.rep i c hi
      exact ⟨y, hs i y hy, hr.ext hs (ha.old _ (h.lt i y hy).2.2)⟩
  · rcases key i c hi with ⟨e1, e2⟩ | ⟨hne, hi'⟩ <;> rcases key j d hj with ⟨e3, e4⟩ | ⟨hne', hj'⟩
    · rw [e1, e3]
    · subst e1
      have := gnew y hy; subst this
      have := (h.lt j z (gold j z hne' hz)).2.2; omega
    · subst e3
      have := gnew z hz; subst this
      have := (h.lt i y (gold i y hne hy)).2.2; omega
    · exact h.inj i j y z c d hi' hj' (gold i y hne hy) (gold j z hne' hz) e
  · by_cases hi : i = n
    · subst hi
      have := gnew y hy; subst this
      have := h.size
      exact ⟨by omega, by omega, hx'⟩
    · have := h.lt i y (gold i y hi hy)
      exact ⟨by omega, this.2.1, by omega⟩
  · rw [ha.old k (Nat.lt_of_lt_of_le hk h.size)]; exact h.old k hk
  · rcases key i c hi with ⟨rfl, rfl⟩ | ⟨hne, hi'⟩
    · have := gnew y hy; subst this; omega
    · exact ⟨i, y, c, hi', gold i y hne hy, rfl⟩
theorem RM.globs (h : RM w0 g M n w) (hG : GlobOk P w0) : GlobOk P w := fun k hk => by
  obtain ⟨c, hc, h1⟩ := hG k hk
  have hlt : k < w0.heap.size := by
    unfold World.cell? at hc
    dsimp only at hc
    cases hh : w0.heap[k]? with
    | none => rw [hh] at hc; cases hc
    | some _ => exact (Array.getElem?_eq_some_iff.1 hh).1
  exact ⟨c, by rw [← hc]; unfold World.cell?; dsimp only; rw [h.old k hlt], h1⟩

/-- Every function, to a depth. -/
theorem runB_good [Subsingleton A] {kn : List (Nat × KS)} (hG : GlobOk P w0) (hkn : Known P kn) : ∀ (d : Nat), CallGood P w0 (runB P kn d : CallT A)
  | 0 => ⟨hG, fun f xs M n K r g w cargs h _ _ => by cases h⟩
  | d + 1 => ⟨hG, fun f xs M n K r g w cargs h hM hx => by
    replace h : (match knOf f kn with
      | some k => knB k xs M n K
      | none => ob (bodyOf P f) (fun fc => enterB P (runB P kn d) fc xs M n K)) = some r := h
    have hent : ∀ {fn : Func} {c : Code}, P.funcs[f]? = some fn → fn.body = some c → (fn.name == "runtime.NumGoroutine") = false → (callFunc f cargs).run P w = .ok (.enter f cargs) w := fun {fn c} hf hb hname => by
      simp only [callFunc, program, Sem.run_bind]
      simp [Sem.run, hf, hname, hb]
      simpa using hname
    split at h
    · rename_i k hin
      obtain ⟨⟨fn, c, hf, hb, hname⟩, hc⟩ := hkn f k hin
      refine ⟨hent hf hb hname, ?_⟩
      have hGw := hM.globs hG
      unfold knB at h
      split at h
      · replace h := bb_some h; obtain ⟨hx0, h⟩ := h
        obtain rfl : xs = [] := by simpa using hx0
        obtain rfl : cargs = #[] := by have := hx.inv0; simpa using this
        refine (hc w hGw).mono fun e w' ⟨ha, he⟩ => ?_
        subst he
        obtain ⟨k1, k2⟩ := hM.grow ha
        exact ⟨_, _, M, n, g, rfl, h, .bool _, k1, k2⟩
      · split at h
        · obtain ⟨cv, e1, hr⟩ := hx.inv1
          obtain rfl : cargs = #[cv] := by cases cargs; simp_all
          cases hr with | @str s l e2 hs =>
            refine (hc w s hs hGw).mono fun e w' ⟨ha, he⟩ => ?_
            subst he
            obtain ⟨k1, k2⟩ := hM.grow ha
            exact ⟨_, _, M, n, g, rfl, h, .str e2 hs, k1, k2⟩
        · obtain ⟨cv, e1, hr⟩ := hx.inv1
          obtain rfl : cargs = #[cv] := by cases cargs; simp_all
          cases hr with | @anys lo hi s h1 h2 hs =>
            refine (hc w s hs hGw).mono fun e w' ⟨ha, he⟩ => ?_
            subst he
            obtain ⟨k1, k2⟩ := hM.grow ha
            exact ⟨_, _, M, n, g, rfl, h, .anys h1 h2 hs, k1, k2⟩
        · cases h
      · replace h := bb_some h; obtain ⟨hx0, h⟩ := h
        obtain rfl : xs = [] := by simpa using hx0
        obtain rfl : cargs = #[] := by have := hx.inv0; simpa using this
        rw [newB_eq] at h
        refine (hc w hGw).mono fun e w' ⟨ha, x, cv, he, h1, h2, h3⟩ => ?_
        subst he
        obtain ⟨k1, k2⟩ := h3 (updG g n x) n updG_new
        obtain ⟨k3, k4⟩ := hM.adopt ha h1 h2 k2
        exact ⟨_, _, _, _, updG g n x, rfl, h, k1, k3, k4⟩
    · replace h := ob_some h; obtain ⟨fc, hfc, h⟩ := h
      obtain ⟨hf, hb, hname⟩ := bodyOf_some hfc
      refine ⟨hent hf hb hname, calls_of_wp hf hb ?_⟩
      unfold enterB at h
      obtain ⟨F, h, hF⟩ := argsK_some h
      have hlen : xs.length = cargs.size := by rw [hx.length]; simp
      have hget : ∀ t v, F.get t = some v → xs[t]? = some v := fun t v ht => by
        rcases hF t v ht with h1 | ⟨_, h1⟩
        · cases h1
        · simpa using h1
      refine codeB_wp (runB_good hG hkn d) fc.2 h hM ⟨?_, fun t v ht => ?_, rfl, fun t v ht => ?_⟩ fun e F' M' n' g' a' w' h1 h2 h3 h4 => ?_
      · simp [hlen]
      · obtain ⟨cv, h1, h2⟩ := hx.get (hget t v ht)
        have hlt : t < cargs.size := by have := (List.getElem?_eq_some_iff.1 h1).1; simpa using this
        rw [Array.getD_eq_getD_getElem?, Array.getElem?_append_left hlt, ← Array.getElem?_toList, h1]
        exact h2
      · have := (List.getElem?_eq_some_iff.1 (hget t v ht)).1
        omega
      · have fin : retB P F' M' n' fc.1.results.toList K = some r → a'.defers = [] ∧ ∃ v, (results fc.1 a'.tmps).run P w' = .ok v w' ∧ CallPost w0 g M w K r (.returned v) w' := fun h => by
          obtain ⟨v, cv, k1, k2, k3⟩ := ret_run hG h3 h2 h
          exact ⟨h2.defers, cv, k2, v, cv, M', n', g', rfl, k1, k3, h3, h4⟩
        cases e with
        | normal => exact fin h1
        | ret => exact fin h1
        | _ => cases h1⟩

/-- It comes to 'true'. -/
def isTrue : V → Mm → Nat → Option Unit := fun v _ _ => match v with
  | .bool true => some ()
  | _ => none
theorem rm_start (w : World) : RM w ⟨fun _ => none, 0⟩ .e 0 w := ⟨fun id b h => (by cases h), fun i j x y b c h => (by cases h), fun id x h => (by cases h), Nat.le_refl _, fun _ _ => rfl, rfl, rfl, rfl, rfl⟩
/-- A call whose arguments are no memory. -/
theorem closed_call {kn : List (Nat × KS)} (hkn : Known P kn) {d f : Nat} {xs : List V} (h : runB P kn d f xs .e 0 isTrue = some ()) (w : World) (hG : GlobOk P w) {cargs : Array Value} (hx : RepL ⟨fun _ => none, 0⟩ xs cargs.toList) :
    Calls P f cargs w fun e w' => Aside w w' ∧ e = .returned (.bool true) := by
  refine ((runB_good hG hkn d).2 _ _ _ _ _ _ _ _ cargs h (rm_start w) hx).2.mono fun e w' he => ?_
  obtain ⟨v, cv, M', n', g', rfl, h1, h2, h3, h4⟩ := he
  unfold isTrue at h1
  split at h1
  · cases h2
    exact ⟨⟨h3.size, h3.old, h3.tape, h3.os, h3.output⟩, rfl⟩
  · cases h1
theorem known_nil : Known P [] := fun f k h => by cases h
theorem known_more {kn : List (Nat × KS)} (hkn : Known P kn) {f : Nat} {k : KS} (hb : (bodyOf P f).isSome = true) (h : KnOk P f k) : Known P ((f, k) :: kn) := fun g k' hk => by
  unfold knOf at hk
  split at hk
  · rename_i e
    have := Nat.eq_of_beq_eq_true e
    subst this
    injection hk with hk; subst hk
    obtain ⟨fc, hfc⟩ := Option.isSome_iff_exists.1 hb
    obtain ⟨h1, h2, h3⟩ := bodyOf_some hfc
    exact ⟨⟨fc.1, fc.2, h1, h2, h3⟩, h⟩
  · exact hkn g k' hk
/-- One that comes to true. -/
theorem known_tru {kn : List (Nat × KS)} (hkn : Known P kn) {d f : Nat} (hb : (bodyOf P f).isSome = true) (h : runB P kn d f [] .e 0 isTrue = some ()) : Known P ((f, .tru) :: kn) :=
  known_more hkn hb fun w hG => closed_call hkn h w hG (cargs := #[]) .nil

theorem sc_rep {a b : V} {g' : Env} {cv : Value} (h : sc a b = true) (hb : Rep g b cv) : Rep g' a cv ∧ c1 a = true := by
  unfold sc at h
  split at h
  · rw [eqL_eq, decide_eq_true_eq] at h
    subst h
    cases hb with | str h1 h2 => exact ⟨.str h1 h2, rfl⟩
  · simp only [Bool.and_eq_true, decide_eq_true_eq, eqI_eq] at h
    obtain ⟨rfl, rfl⟩ := h
    cases hb; exact ⟨.int _ _, rfl⟩
  · rename_i x y
    have : x = y := by simpa using h
    subst this
    cases hb; exact ⟨.bool _, rfl⟩
  · cases h
theorem eqTr_get : ∀ {c c' : T V} {k : Nat} {v : V}, eqTr c c' = true → c.get k = some v → ∃ u, c'.get k = some u ∧ sc v u = true
  | .e, .e, k, v, _, h => by cases h
  | .n l x r, .n l' x' r', k, v, he, h => by
    rw [eqTr, Bool.and_eq_true, Bool.and_eq_true] at he
    rw [T.get_n] at h ⊢
    split at h
    · rename_i hk
      rw [if_pos hk]
      subst h
      have := he.1.2
      cases x' with
      | none => cases this
      | some u => exact ⟨u, rfl, this⟩
    · rename_i hk
      rw [if_neg hk]
      split at h
      · rename_i hk1; rw [if_pos hk1]; exact eqTr_get he.1.1 h
      · rename_i hk1; rw [if_neg hk1]; exact eqTr_get he.2 h
  | .e, .n .., k, v, he, h => by simp [eqTr] at he
  | .n .., .e, k, v, he, h => by simp [eqTr] at he
/-- One that makes a slice of scalars. -/
theorem known_res {kn : List (Nat × KS)} (hkn : Known P kn) {d f o e l m : Nat} {ex : Bool} {c : T V} (hb : (bodyOf P f).isSome = true) (h : runB P kn d f [] .e 0 (isRes o e l m ex c) = some ()) : Known P ((f, .res (.sl 0 o e l none) (.cells m ex c)) :: kn) := by
  refine known_more hkn hb fun w hG => ?_
  refine ((runB_good hG hkn d).2 _ _ _ _ _ _ _ _ #[] h (rm_start w) .nil).2.mono fun en w' he => ?_
  obtain ⟨v, cv, M', n', g', rfl, h1, h2, h3, h4⟩ := he
  refine ⟨⟨h3.size, h3.old, h3.tape, h3.os, h3.output⟩, ?_⟩
  unfold isRes at h1
  split at h1
  · rename_i id o' e' l'
    replace h1 := bb_some h1; obtain ⟨hb1, h1⟩ := h1
    simp only [Bool.and_eq_true, Nat.beq_eq] at hb1
    obtain ⟨⟨rfl, rfl⟩, rfl⟩ := hb1
    replace h1 := ob_some h1; obtain ⟨b, hbk, h1⟩ := h1
    split at h1
    · rename_i n2 ex2 c2
      replace h1 := bb_some h1; obtain ⟨hb2, h1⟩ := h1
      simp only [Bool.and_eq_true, Nat.beq_eq, beq_iff_eq] at hb2
      obtain ⟨⟨rfl, rfl⟩, htr⟩ := hb2
      cases h2 with | @sl _ _ _ _ cap _ x p hg he hle hp hc =>
        obtain ⟨y, hy, hblk⟩ := h3.rep id _ hbk
        obtain rfl : x = y := by rw [hg] at hy; injection hy
        have hlt := h3.lt id x hg
        refine ⟨x, _, rfl, hlt.2.1, hlt.2.2, fun g id2 hg2 => ⟨.sl hg2 he hle hp hc, ?_⟩⟩
        obtain ⟨cs, ty, fr, b1, b2, b3, b4, b5, b6⟩ := hblk
        refine ⟨cs, ty, fr, b1, b2, b3, b4, b5, fun k v hk => ?_⟩
        obtain ⟨u, hu, hs⟩ := eqTr_get htr hk
        obtain ⟨k1, _, cv, k3, k4⟩ := b6 k u hu
        obtain ⟨k5, k6⟩ := sc_rep (g' := g) hs k4
        exact ⟨k1, k6, cv, k3, k5⟩
    · cases h1
  · cases h1
end Go.Eb

/-
Plans of regions that draw, printed by a tool of my own.
-/
namespace Go.Ev
deriving instance DecidableEq for Pl.PStep
def pl3_0 : List Pl.PStep := [.still 2 [5], .still 0 [0], .act [(2, [5]), (0, [0])] 1 [18], .act [(2, [5])] 3 [20], .act [] 4 [19], .act [] 5 [5, 21], .fin []]
def pl3_1 : List Pl.PStep := [.still 2 [5], .still 0 [0], .act [(2, [5]), (0, [0])] 1 [51], .act [(2, [5])] 3 [53], .act [] 4 [52, 54], .still 5 [55], .still 8 [50], .still 7 [50], .still 6 [50], .act [(8, [50]), (7, [50]), (6, [50]), (5, [55])] 9 [], .act [(8, [50]), (7, [50]), (6, [50]), (5, [55])] 10 [9, 56], .act [(8, [50]), (7, [50])] 11 [57], .act [(8, [50])] 12 [58], .fin []]
def pl3_2 : List Pl.PStep := [.still 4 [2], .still 5 [85], .still 2 [5], .still 0 [0], .act [(5, [85]), (4, [2]), (2, [5]), (0, [0])] 1 [81], .act [(5, [85]), (4, [2]), (2, [5])] 3 [83], .act [(5, [85]), (4, [2])] 6 [82, 84, 86], .still 7 [87], .still 10 [80], .still 9 [80], .still 8 [80], .act [(10, [80]), (9, [80]), (8, [80]), (7, [87])] 11 [], .act [(10, [80]), (9, [80]), (8, [80]), (7, [87])] 12 [12, 88], .act [(10, [80]), (9, [80])] 13 [89], .act [(10, [80])] 14 [90], .fin []]
def pl3_3 : List Pl.PStep := [.still 4 [3], .still 2 [5], .still 0 [0], .act [(4, [3]), (2, [5]), (0, [0])] 1 [105], .act [(4, [3]), (2, [5])] 3 [107], .act [(4, [3])] 5 [106, 108, 109], .still 6 [110], .still 9 [104], .still 8 [104], .still 7 [104], .act [(9, [104]), (8, [104]), (7, [104]), (6, [110])] 10 [], .act [(9, [104]), (8, [104]), (7, [104]), (6, [110])] 11 [15, 111], .act [(9, [104]), (8, [104])] 12 [112], .act [(9, [104])] 13 [113], .fin []]
def pl5_0 : List Pl.PStep := [.still 4 [7], .still 2 [1], .still 0 [0], .act [(4, [7]), (2, [1]), (0, [0])] 1 [26], .act [(4, [7]), (2, [1])] 3 [28], .act [(4, [7])] 5 [30], .act [] 6 [27], .act [] 7 [29], .act [] 8 [7, 31], .fin []]
def pl5_1 : List Pl.PStep := [.still 2 [7], .still 0 [0], .act [(2, [7]), (0, [0])] 1 [70], .act [(2, [7])] 3 [72], .act [] 4 [71, 73], .still 5 [74], .still 8 [69], .still 7 [69], .still 6 [69], .act [(8, [69]), (7, [69]), (6, [69]), (5, [74])] 9 [], .act [(8, [69]), (7, [69]), (6, [69]), (5, [74])] 10 [9, 75], .act [(8, [69]), (7, [69])] 11 [76], .act [(8, [69])] 12 [77], .fin []]
def pl5_2 : List Pl.PStep := [.still 2 [7], .still 0 [1], .act [(2, [7]), (0, [1])] 1 [79], .act [(2, [7])] 3 [81], .act [] 4 [80, 82], .still 5 [83], .still 8 [78], .still 7 [78], .still 6 [78], .act [(8, [78]), (7, [78]), (6, [78]), (5, [83])] 9 [], .act [(8, [78]), (7, [78]), (6, [78]), (5, [83])] 10 [12, 84], .act [(8, [78]), (7, [78])] 11 [85], .act [(8, [78])] 12 [86], .fin []]
def pl7_0 : List Pl.PStep := [.still 11 [1], .still 12 [14], .still 13 [15], .still 7 [1], .still 8 [10], .still 9 [11], .still 3 [1], .still 4 [6], .still 5 [7], .still 0 [1], .still 1 [3], .act [(13, [15]), (12, [14]), (11, [1]), (9, [11]), (8, [10]), (7, [1]), (5, [7]), (4, [6]), (3, [1]), (1, [3]), (0, [1])] 2 [4], .still 15 [1], .act [(15, [1]), (13, [15]), (12, [14]), (11, [1]), (9, [11]), (8, [10]), (7, [1]), (5, [7]), (4, [6]), (3, [1])] 6 [8], .act [(15, [1]), (13, [15]), (12, [14]), (11, [1]), (9, [11]), (8, [10]), (7, [1])] 10 [12], .act [(15, [1]), (13, [15]), (12, [14]), (11, [1])] 14 [16], .act [(15, [1])] 16 [18, 5], .still 17 [1], .still 18 [19], .act [(18, [19]), (17, [1])] 19 [20, 9], .still 20 [1], .still 21 [21], .act [(21, [21]), (20, [1])] 22 [22, 13], .still 23 [1], .still 24 [23], .act [(24, [23]), (23, [1])] 25 [24, 17], .fin []]
def pl13_0 : List Pl.PStep := [.still 12 [1], .still 13 [15], .still 9 [1], .still 10 [12], .still 7 [1], .still 8 [10], .still 5 [1], .still 6 [8], .still 2 [1], .still 3 [5], .still 0 [1], .still 1 [3], .act [(13, [15]), (12, [1]), (10, [12]), (9, [1]), (8, [10]), (7, [1]), (6, [8]), (5, [1]), (3, [5]), (2, [1]), (1, [3]), (0, [1])] 4 [6], .act [(13, [15]), (12, [1]), (10, [12]), (9, [1]), (8, [10]), (7, [1]), (6, [8]), (5, [1]), (1, [3]), (0, [1])] 11 [13], .act [(13, [15]), (12, [1]), (8, [10]), (7, [1]), (6, [8]), (5, [1]), (1, [3]), (0, [1])] 14 [16], .still 15 [4, 7, 9, 11, 14, 17], .act [(15, [4, 7, 9, 11, 14, 17]), (8, [10]), (7, [1]), (6, [8]), (5, [1]), (1, [3]), (0, [1])] 16 [2, 18], .fin []]
def pl19_0 : List Pl.PStep := [.still 2 [12], .still 3 [49], .still 4 [50], .still 8 [0, 51], .still 9 [55, 51], .still 6 [12, 51], .still 5 [6, 51], .still 7 [52, 53, 51], .still 10 [54, 56, 51], .still 11 [57, 51], .still 14 [12, 58], .still 13 [6, 58], .still 15 [60, 61, 58], .still 12 [0, 58], .still 16 [59, 62, 58], .still 17 [63, 58], .still 18 [58, 64, 51], .still 19 [51, 65], .still 0 [11], .still 1 [47], .act [(19, [51, 65]), (18, [58, 64, 51]), (17, [63, 58]), (16, [59, 62, 58]), (15, [60, 61, 58]), (14, [12, 58]), (13, [6, 58]), (12, [0, 58]), (11, [57, 51]), (10, [54, 56, 51]), (9, [55, 51]), (8, [0, 51]), (7, [52, 53, 51]), (6, [12, 51]), (5, [6, 51]), (4, [50]), (3, [49]), (2, [12]), (1, [47]), (0, [11])] 20 [9, 48], .act [(19, [51, 65]), (18, [58, 64, 51]), (17, [63, 58]), (16, [59, 62, 58]), (15, [60, 61, 58]), (14, [12, 58]), (13, [6, 58]), (12, [0, 58])] 21 [66], .fin []]
def pl29_0 : List Pl.PStep := [.still 4 [1], .still 5 [35], .still 0 [1], .still 1 [31], .act [(5, [35]), (4, [1]), (1, [31]), (0, [1])] 2 [32], .still 3 [33], .act [(5, [35]), (4, [1]), (3, [33])] 6 [36], .still 7 [34, 37], .act [(7, [34, 37]), (3, [33])] 8 [38], .fin []]
def pl36_0 : List Pl.PStep := [.still 4 [0], .still 5 [29], .still 0 [0], .still 1 [25], .act [(5, [29]), (4, [0]), (1, [25]), (0, [0])] 2 [26], .still 3 [27], .act [(5, [29]), (4, [0]), (3, [27])] 6 [30], .still 7 [28, 31], .still 8 [32], .act [(8, [32]), (7, [28, 31]), (3, [27])] 9 [33], .fin []]
def pl40_0 : List Pl.PStep := [.still 4 [5], .still 5 [40], .still 6 [41], .still 1 [5], .still 2 [37], .still 3 [38], .still 0 [3], .act [(6, [41]), (5, [40]), (4, [5]), (3, [38]), (2, [37]), (1, [5]), (0, [3])] 7 [39, 42], .act [(0, [3])] 8 [36, 43], .act [] 9 [44], .fin []]
def pl41_0 : List Pl.PStep := [.still 11 [1], .still 5 [0], .still 6 [14], .still 7 [15], .still 8 [16], .still 9 [17], .still 0 [0], .still 1 [9], .still 2 [10], .still 3 [11], .act [(11, [1]), (9, [17]), (8, [16]), (7, [15]), (6, [14]), (5, [0]), (3, [11]), (2, [10]), (1, [9]), (0, [0])] 4 [12], .still 10 [13, 18], .still 12 [19, 20], .fin [(12, [19, 20]), (11, [1]), (10, [13, 18]), (9, [17]), (8, [16]), (7, [15]), (6, [14]), (5, [0])]]
def pl43_0 : List Pl.PStep := [.still 5 [0], .still 6 [8], .still 7 [9], .still 8 [10], .still 9 [11], .still 0 [0], .still 1 [3], .still 2 [4], .still 3 [5], .act [(9, [11]), (8, [10]), (7, [9]), (6, [8]), (5, [0]), (3, [5]), (2, [4]), (1, [3]), (0, [0])] 4 [6], .act [(9, [11]), (8, [10]), (7, [9]), (6, [8]), (5, [0])] 10 [7, 12], .act [] 11 [13], .fin []]
def pl46_0 : List Pl.PStep := [.still 5 [1], .still 6 [18], .still 7 [19], .still 8 [20], .still 1 [1], .still 2 [14], .still 3 [15], .still 4 [16], .still 0 [0], .act [(8, [20]), (7, [19]), (6, [18]), (5, [1]), (4, [16]), (3, [15]), (2, [14]), (1, [1]), (0, [0])] 9 [13, 17, 21], .still 11 [22], .still 10 [22], .act [(11, [22]), (10, [22])] 12 [4, 23], .act [] 13 [24], .fin []]
def pl54_0 : List Pl.PStep := [.still 9 [0], .still 10 [14], .still 11 [15], .still 12 [16], .still 13 [17], .still 6 [1], .still 0 [0], .still 1 [5], .still 2 [6], .still 3 [7], .act [(13, [17]), (12, [16]), (11, [15]), (10, [14]), (9, [0]), (6, [1]), (3, [7]), (2, [6]), (1, [5]), (0, [0])] 4 [8], .still 5 [9], .still 7 [10, 11], .act [(13, [17]), (12, [16]), (11, [15]), (10, [14]), (9, [0]), (7, [10, 11]), (6, [1]), (5, [9])] 8 [12], .still 14 [13, 18], .act [(14, [13, 18]), (13, [17]), (12, [16]), (11, [15]), (10, [14]), (9, [0])] 15 [19], .fin []]
def pl66_0 : List Pl.PStep := [.still 9 [9], .still 10 [51], .still 6 [9], .still 7 [48], .still 8 [49], .still 4 [4], .still 5 [46], .still 3 [0], .still 1 [4], .still 2 [43], .still 0 [0], .still 11 [42, 44], .act [(11, [42, 44]), (10, [51]), (9, [9]), (8, [49]), (7, [48]), (6, [9]), (5, [46]), (4, [4]), (3, [0]), (2, [43]), (1, [4]), (0, [0])] 12 [53, 50], .still 13 [45, 47], .act [(13, [45, 47]), (10, [51]), (9, [9]), (5, [46]), (4, [4]), (3, [0])] 14 [54, 52], .fin []]
def pl66_1 : List Pl.PStep := [.still 9 [8], .still 10 [64], .still 6 [8], .still 7 [61], .still 8 [62], .still 4 [4], .still 5 [59], .still 3 [0], .still 1 [4], .still 2 [56], .still 0 [0], .still 11 [55, 57], .act [(11, [55, 57]), (10, [64]), (9, [8]), (8, [62]), (7, [61]), (6, [8]), (5, [59]), (4, [4]), (3, [0]), (2, [56]), (1, [4]), (0, [0])] 12 [66, 63], .still 13 [58, 60], .act [(13, [58, 60]), (10, [64]), (9, [8]), (5, [59]), (4, [4]), (3, [0])] 14 [67, 65], .fin []]
def pl66_2 : List Pl.PStep := [.still 9 [11], .still 10 [77], .still 6 [11], .still 7 [74], .still 8 [75], .still 4 [4], .still 5 [72], .still 3 [0], .still 1 [4], .still 2 [69], .still 0 [0], .still 11 [68, 70], .act [(11, [68, 70]), (10, [77]), (9, [11]), (8, [75]), (7, [74]), (6, [11]), (5, [72]), (4, [4]), (3, [0]), (2, [69]), (1, [4]), (0, [0])] 12 [79, 76], .still 13 [71, 73], .act [(13, [71, 73]), (10, [77]), (9, [11]), (5, [72]), (4, [4]), (3, [0])] 14 [80, 78], .fin []]
def pl66_3 : List Pl.PStep := [.still 9 [10], .still 10 [90], .still 6 [10], .still 7 [87], .still 8 [88], .still 4 [4], .still 5 [85], .still 3 [0], .still 1 [4], .still 2 [82], .still 0 [0], .still 11 [81, 83], .act [(11, [81, 83]), (10, [90]), (9, [10]), (8, [88]), (7, [87]), (6, [10]), (5, [85]), (4, [4]), (3, [0]), (2, [82]), (1, [4]), (0, [0])] 12 [92, 89], .still 13 [84, 86], .act [(13, [84, 86]), (10, [90]), (9, [10]), (5, [85]), (4, [4]), (3, [0])] 14 [93, 91], .fin []]
def pl66_4 : List Pl.PStep := [.still 9 [15], .still 10 [119], .still 6 [15], .still 7 [116], .still 8 [117], .still 4 [4], .still 5 [114], .still 3 [0], .still 1 [4], .still 2 [111], .still 0 [0], .still 11 [110, 112], .act [(11, [110, 112]), (10, [119]), (9, [15]), (8, [117]), (7, [116]), (6, [15]), (5, [114]), (4, [4]), (3, [0]), (2, [111]), (1, [4]), (0, [0])] 12 [121, 118], .still 13 [113, 115], .act [(13, [113, 115]), (10, [119]), (9, [15]), (5, [114]), (4, [4]), (3, [0])] 14 [122, 120], .fin []]
def pl66_5 : List Pl.PStep := [.still 9 [14], .still 10 [132], .still 6 [14], .still 7 [129], .still 8 [130], .still 4 [4], .still 5 [127], .still 3 [0], .still 1 [4], .still 2 [124], .still 0 [0], .still 11 [123, 125], .act [(11, [123, 125]), (10, [132]), (9, [14]), (8, [130]), (7, [129]), (6, [14]), (5, [127]), (4, [4]), (3, [0]), (2, [124]), (1, [4]), (0, [0])] 12 [134, 131], .still 13 [126, 128], .act [(13, [126, 128]), (10, [132]), (9, [14]), (5, [127]), (4, [4]), (3, [0])] 14 [135, 133], .fin []]
def pl66_6 : List Pl.PStep := [.still 9 [16], .still 10 [154], .still 6 [16], .still 7 [151], .still 8 [152], .still 4 [4], .still 5 [149], .still 3 [0], .still 1 [4], .still 2 [146], .still 0 [0], .still 11 [145, 147], .act [(11, [145, 147]), (10, [154]), (9, [16]), (8, [152]), (7, [151]), (6, [16]), (5, [149]), (4, [4]), (3, [0]), (2, [146]), (1, [4]), (0, [0])] 12 [156, 153], .still 13 [148, 150], .act [(13, [148, 150]), (10, [154]), (9, [16]), (5, [149]), (4, [4]), (3, [0])] 14 [157, 155], .fin []]
def pl78_0 : List Pl.PStep := [.still 3 [], .still 1 [1], .still 0 [0], .act [(3, []), (1, [1]), (0, [0])] 2 [6], .still 4 [5, 7, 8], .act [(4, [5, 7, 8]), (3, []), (0, [0])] 5 [9], .act [] 6 [10], .fin []]
def pl79_0 : List Pl.PStep := [.still 3 [], .still 1 [1], .still 0 [0], .act [(3, []), (1, [1]), (0, [0])] 2 [6], .still 4 [5, 7, 8], .act [(4, [5, 7, 8]), (3, []), (0, [0])] 5 [9], .act [] 6 [10], .fin []]
attribute [push_cast] pl3_0 pl3_1 pl3_2 pl3_3 pl5_0 pl5_1 pl5_2 pl7_0 pl13_0 pl19_0 pl29_0 pl36_0 pl40_0 pl41_0 pl43_0 pl46_0 pl54_0 pl66_0 pl66_1 pl66_2 pl66_3 pl66_4 pl66_5 pl66_6 pl78_0 pl79_0
end Go.Ev
