/-
The closed evaluator: reading and writing memory, new memory.
-/
import Derived.Test.YthglbpibfhfgnaaGreatDoorEb4
set_option linter.unusedVariables false
set_option linter.unusedSimpArgs false
namespace Go.Eb
open Go.Ev (szT byT aggO offT fszT TK kindT elemK zok LK leavesT openB kind_slice kind_array kind_str kind_int run_sizeOf szT_info addr_add At zok_is)
variable {A : Type} {P : Program} {w0 : World} {g : Env} {F : Fr} {M : Mm} {n m : Nat} {a : Act} {w : World} {K : V → Mm → Nat → Option A} {r : A}

/-- What is read out of a block. -/
theorem read_rep {h : Array Obj} {x : Lc} {k off q : Nat} {ex : Bool} {c : T V} {vs : List V} (hb : BlkRep g h x (.cells k ex c)) (hl : vs.length = q) (hg : ∀ i v, vs[i]? = some v → c.get (off + i) = some v) :
    ∃ cvs, RepL g vs cvs ∧ (∀ v ∈ vs, c1 v = true) ∧ cvs.length = q ∧ At h x.blk (x.base + off) cvs ∧ (0 < q → off + q ≤ k) := by
  obtain ⟨cs, ty, fr, h1, h2, h3, h4, h5, h6⟩ := hb
  have hle : 0 < q → off + q ≤ k := fun hq => by
    obtain ⟨v, hv⟩ : ∃ v, vs[q - 1]? = some v := ⟨vs[q - 1], List.getElem?_eq_getElem (by omega)⟩
    have := (h6 _ _ (hg _ _ hv)).1
    omega
  have hat : ∀ i, i < q → ∃ v, vs[i]? = some v := fun i hi => ⟨vs[i], List.getElem?_eq_getElem (by omega)⟩
  by_cases hq : q = 0
  · subst hq
    have : vs = [] := List.eq_nil_of_length_eq_zero hl
    subst this
    exact ⟨[], .nil, by simp, rfl, by intro k v hk; simp at hk, fun h => absurd h (by omega)⟩
  · have hle' := hle (by omega)
    have hlen : ((cs.toList.drop (x.base + off)).take q).length = q := by
      rw [List.length_take, List.length_drop, Array.length_toList]; omega
    have hgets : ∀ i, i < q → ((cs.toList.drop (x.base + off)).take q)[i]? = cs[x.base + off + i]? := fun i hi => by
      rw [List.getElem?_take, if_pos hi, List.getElem?_drop, Array.getElem?_toList]
    refine ⟨(cs.toList.drop (x.base + off)).take q, RepL.of_get (by rw [hl, hlen]) fun i v hv => ?_, fun v hv => ?_, hlen, fun i u hu => ?_, hle⟩
    · have hi : i < q := by rw [← hl]; exact (List.getElem?_eq_some_iff.1 hv).1
      obtain ⟨_, _, cv, hc, hr⟩ := h6 _ _ (hg i v hv)
      refine ⟨cv, ?_, hr⟩
      rw [hgets i hi, Nat.add_assoc]; exact hc
    · obtain ⟨i, hi⟩ := List.getElem?_of_mem hv
      exact (h6 _ _ (hg i v hi)).2.1
    · have hi : i < q := by rw [← hlen]; exact (List.getElem?_eq_some_iff.1 hu).1
      rw [hgets i hi] at hu
      unfold Ev.cellAt
      rw [h1]; exact hu

/-- The package variables that may be read. -/
def GlobOk (P : Program) (w : World) : Prop := ∀ k, globOk P k = true → ∃ c, w.cell? ⟨k, 0, none⟩ = some c ∧ c.oneCell' = true
theorem loadB_did (hG : GlobOk P w0) (hM : RM w0 g M n w) {t : TypeId} {p : V} {cp : Value} (hp : Rep g p cp) (h : loadB P M n t p K = some r) : DidS w0 g M n w K r ((Instr.loadAt t cp).run P w) := by
  unfold loadB at h
  split at h
  · rename_i id off
    replace h := cellsAt_some h; obtain ⟨k, ex, c, hid, h⟩ := h
    replace h := ob_some h; obtain ⟨ag, hag, h⟩ := h
    replace h := bb_some h; obtain ⟨hpos, h⟩ := h
    have hpos : 0 < szT P t := by simpa [Nat.blt_eq] using hpos
    cases hp with | @ptr _ _ x hg =>
      obtain ⟨y, hy, hb⟩ := hM.rep id _ hid
      obtain rfl : x = y := by rw [hg] at hy; injection hy
      rw [Ev.loadAt_run]
      cases ag with
      | true =>
        obtain ⟨vs, hl, hgs, h⟩ := readK_some h
        obtain ⟨cvs, h1, h2, h3, h4, h5⟩ := read_rep hb hl hgs
        rw [Ev.loadVar_run hag hpos h4 h3]
        exact did_ok hM h (.agg (by simpa using h1) h2)
      | false =>
        obtain ⟨v, hv, h⟩ := ob_some h
        obtain ⟨cs, ty, fr, g1, g2, g3, g4, g5, g6⟩ := hb
        obtain ⟨h6, h7, cv, h8, h9⟩ := g6 off v hv
        obtain ⟨i, hi⟩ := szT_info hpos
        unfold loadVar
        have hc : w.cell? ⟨x.blk, x.base + off, none⟩ = some cv := by
          rw [Ev.cell_at]; unfold Ev.cellAt; rw [g1]; exact h8
        simp only [Sem.run_bind, Ev.aggO_run hag, Result.andThen_ok, Bool.false_eq_true, if_false, run_load, hc]
        exact did_ok hM h h9
  · rename_i k
    replace h := bb_some h; obtain ⟨hgk, h⟩ := h
    replace h := ob_some h; obtain ⟨ag, hag, h⟩ := h
    obtain ⟨c, hc, h1⟩ := hG k hgk
    have hk : k < w0.heap.size := by
      unfold World.cell? at hc
      dsimp only at hc
      cases hh : w0.heap[k]? with
      | none => rw [hh] at hc; cases hc
      | some _ => exact (Array.getElem?_eq_some_iff.1 hh).1
    have hc' : w.cell? ⟨k, 0, none⟩ = some c := by
      rw [← hc]; unfold World.cell?; dsimp only; rw [hM.old k hk]
    cases ag with
    | true => cases h
    | false =>
      cases hp with | glob =>
        rw [Ev.loadAt_run]
        unfold loadVar
        simp only [Sem.run_bind, Ev.aggO_run hag, Result.andThen_ok, Bool.false_eq_true, if_false, run_load, hc']
        exact did_ok hM h (.undef h1)
  · cases h

/-- Cells of a block written anew. -/
theorem write_ok (hM : RM w0 g M n w) {id off k : Nat} {ex : Bool} {c c' : T V} {x : Lc} {vs : List V} {cvs : List Value} (hid : M.get id = some (.cells k ex c)) (hg : g id = some x) (hv : RepL g vs cvs) (h1 : ∀ v ∈ vs, c1 v = true)
    (hle : off + vs.length ≤ k) (hc : ∀ j u, c'.get j = some u → (off ≤ j ∧ vs[j - off]? = some u) ∨ ((j < off ∨ off + vs.length ≤ j) ∧ c.get j = some u)) :
    RM w0 g (M.set id (some (.cells k ex c'))) n (w.setCells x.blk (x.base + off) cvs) ∧ Mv g M w g (M.set id (some (.cells k ex c'))) (w.setCells x.blk (x.base + off) cvs) ∧
      ∃ cells ty fr, w.heap[x.blk]? = some (.cells cells ty fr) ∧ openB fr cells.size ∧ x.base + off + vs.length ≤ cells.size ∧ cvs.length = vs.length := by
  obtain ⟨y, hy, cs, ty, fr, b1, b2, b3, b4, b5, b6⟩ := hM.rep id _ hid
  obtain rfl : x = y := by rw [hg] at hy; injection hy
  have hlen := hv.length
  obtain ⟨cells', s1, s2, s3, s4, s5, s6, s7, s8⟩ := Ev.setCells_is cvs (x.base + off) w cs b1 (by omega)
  have := hM.write (b' := .cells k ex c') hid hg s4 s5 ⟨cells', ty, fr, s1, by omega, by rw [s3]; exact b3, b4, b5, fun j u hj => by
    have hpre : (cs.toList.take (x.base + off)).length = x.base + off := by rw [List.length_take, Array.length_toList]; omega
    rcases hc j u hj with ⟨h2, h3⟩ | ⟨h2, h3⟩
    · obtain ⟨cv, hcv, hr⟩ := hv.get h3
      have hjl : j - off < vs.length := (List.getElem?_eq_some_iff.1 h3).1
      refine ⟨by omega, h1 _ (List.mem_of_getElem? h3), cv, ?_, hr⟩
      rw [← Array.getElem?_toList, s2, List.getElem?_append_right (by omega), hpre, List.getElem?_append_left (by omega)]
      rw [show x.base + j - (x.base + off) = j - off by omega]; exact hcv
    · obtain ⟨h4, h5, cv, h6, h7⟩ := b6 j u h3
      refine ⟨h4, h5, cv, ?_, h7⟩
      rw [← Array.getElem?_toList, s2]
      rcases h2 with h2 | h2
      · rw [List.getElem?_append_left (by omega), List.getElem?_take, if_pos (by omega), Array.getElem?_toList]; exact h6
      · rw [List.getElem?_append_right (by omega), hpre, List.getElem?_append_right (by omega), List.getElem?_drop]
        rw [show x.base + off + cvs.length + (x.base + j - (x.base + off) - cvs.length) = x.base + j by omega, Array.getElem?_toList]; exact h6⟩ s7 s6 s8
  exact ⟨this.1, this.2, cs, ty, fr, b1, b3, by omega, hlen.symm⟩

theorem storeB_did (hM : RM w0 g M n w) {t : TypeId} {p v : V} {cp cv : Value} (hp : Rep g p cp) (hv : Rep g v cv) (h : storeB P M n t p v K = some r) :
    ∃ M' n' w', K (.tup []) M' n' = some r ∧ (Instr.storeAt t cp cv).run P w = .ok () w' ∧ RM w0 g M' n' w' ∧ Mv g M w g M' w' := by
  unfold storeB at h
  split at h
  · rename_i id off
    replace h := cellsAt_some h; obtain ⟨k, ex, c, hid, h⟩ := h
    replace h := ob_some h; obtain ⟨vs, hvs, h⟩ := h
    replace h := bb_some h; obtain ⟨hb, h⟩ := h
    simp only [Bool.and_eq_true, Nat.beq_eq, Nat.blt_eq] at hb
    obtain ⟨⟨hl, hpos⟩, hle⟩ := hb
    have hle := Nat.le_of_ble_eq_true hle
    obtain ⟨c', hc, h⟩ := writeK_some h
    rw [T.setK_set] at h
    obtain ⟨hr, h1⟩ := cellsO_rep hvs hv
    cases hp with | @ptr _ _ x hg =>
      obtain ⟨h2, h3, cells, ty, fr, h4, h5, h6, h7⟩ := write_ok hM hid hg hr h1 (by omega) hc
      refine ⟨_, n, _, h, ?_, h2, h3⟩
      rw [Ev.storeAt_run]
      exact Ev.storeVar_run hpos h4 h5 (by rw [← Array.length_toList, h7, hl]) (by omega) (hr.ones h1)
  · cases h

/-- A new block of cells. -/
theorem cells_alloc (hM : RM w0 g M n w) {w1 : World} (hw : w1.heap = w.heap) (ht : w1.tape = w.tape) (ho : w1.os = w.os) (hu : w1.output = w.output) {ex : Bool} {vs : List V} {cvs : List Value} {c : T V} {cells : Array Value} {ty : TypeId}
    (hv : RepL g vs cvs) (h1 : ∀ v ∈ vs, c1 v = true) (hc : ∀ (j : Nat) (u : V), c.get j = some u → vs[j]? = some u) (hcs : ∀ (i : Nat) (u : Value), cvs[i]? = some u → cells[i]? = some u) (hl : vs.length ≤ cells.size) (hex : ex = true → vs.length = cells.size) :
    RM w0 (updG g n ⟨w.heap.size, 0, cells.size⟩) (M.set n (some (.cells vs.length ex c))) (n + 1) (w1.alloc (.cells cells ty)) ∧
      Mv g M w (updG g n ⟨w.heap.size, 0, cells.size⟩) (M.set n (some (.cells vs.length ex c))) (w1.alloc (.cells cells ty)) := by
  refine hM.alloc (.cells cells ty) hw ht ho hu rfl ⟨cells, ty, (0, 0), by simp, rfl, fun _ _ hk => absurd hk.2 (Nat.not_lt_zero _), by simpa using hl, fun h => by simpa using hex h, fun j u hj => ?_⟩
  have hj := hc j u hj
  obtain ⟨cv, h2, h3⟩ := hv.get hj
  exact ⟨(List.getElem?_eq_some_iff.1 hj).1, h1 _ (List.mem_of_getElem? hj), cv, by simpa using hcs j cv h2, h3.mono (hM.sub _)⟩

theorem boxB_did (hM : RM w0 g M n w) {v : V} {cv : Value} {ty : TypeId} (hv : Rep g v cv) (h : boxB M n v K = some r) : Did w0 g M w K r ((Instr.box ty cv).run P w) := by
  unfold boxB at h
  replace h := ob_some h; obtain ⟨vs, hvs, h⟩ := h
  replace h := newCells_some h; obtain ⟨c, hc, h⟩ := h
  obtain ⟨hr, h1⟩ := cellsO_rep hvs hv
  have hlen : vs.length = cv.cells.size := hr.length.trans (Array.length_toList (xs := cv.cells))
  obtain ⟨h2, h3⟩ := cells_alloc (w1 := w) (ex := true) (cells := cv.cells) (ty := ty) hM rfl rfl rfl rfl hr h1 hc (fun i u hu => by rw [← Array.getElem?_toList]; exact hu) (Nat.le_of_eq hlen) (fun _ => hlen)
  have hrun : (Instr.box ty cv).run P w = .ok (.pointer (some ⟨w.heap.size, 0, none⟩)) (w.alloc (.cells cv.cells ty)) := by simp [Instr.box, newVar, newRow]
  exact ⟨_, _, _, _, _, _, h, hrun, .ptr (x := ⟨w.heap.size, 0, cv.cells.size⟩) updG_new, h2, h3⟩
theorem allocB_did (hM : RM w0 g M n w) {ty : TypeId} {old : Value} (h : allocB P M n ty K = some r) : Did w0 g M w K r ((Instr.alloc ty true old).run P w) := by
  unfold allocB at h
  replace h := ob_some h; obtain ⟨z, hz, h⟩ := h
  obtain ⟨i, zv, hi, hiz, hr⟩ := zeroV_rep (P := P) (g := g) hz
  have := boxB_did (P := P) (ty := ty) hM hr h
  have e : (Instr.alloc ty true old).run P w = (Instr.box ty zv).run P w := by
    simp [Instr.alloc, Instr.box, zeroValue, typeInfo, hi, hiz]
  rw [e]; exact this

/-! ### What is appended or copied -/
structure Src (P : Program) (g : Env) (w : World) (z : Nat) (cy : Value) (q : Nat) (vs : List V) (cvs : List Value) : Prop where
  len : ∀ w', (Builtin.lenOf cy).run P w' = .ok q w'
  cells : ∀ w', w'.heap = w.heap → (Builtin.firstCells z q cy).run P w' = .ok cvs.toArray w'
  some : ∀ w' k, w'.heap = w.heap → k ≤ q → (Builtin.firstCells z k cy).run P w' = .ok (cvs.take (k * z)).toArray w'
  rep : RepL g vs cvs
  one : ∀ v ∈ vs, c1 v = true
  n : cvs.length = q * z
theorem At.take {h : Array Obj} {b o k : Nat} {vs : List Value} (ha : At h b o vs) : At h b o (vs.take k) := fun j v hj => by
  rw [List.getElem?_take] at hj
  split at hj
  · exact ha j v hj
  · cases hj
theorem srcK_some (hM : RM w0 g M n w) {z : Nat} {y : V} {cy : Value} {K : Nat → List V → Option A} (hy : Rep g y cy) (h : srcK M z y K = some r) : ∃ q vs cvs, K q vs = some r ∧ Src P g w z cy q vs cvs := by
  unfold srcK at h
  split at h
  · cases hy
    refine ⟨0, [], [], h, fun w' => by simp [Builtin.lenOf], fun w' _ => by simp [Builtin.firstCells], fun w' k _ hk => ?_, .nil, by simp, by simp⟩
    obtain rfl : k = 0 := by omega
    simp [Builtin.firstCells]
  · rename_i id off z' len lim
    replace h := bb_some h; obtain ⟨hz, h⟩ := h
    rw [Nat.beq_eq] at hz
    replace h := cellsAt_some h; obtain ⟨k, ex, c, hid, h⟩ := h
    replace h := readK_some h; obtain ⟨vs, hl, hgs, h⟩ := h
    cases hy with | @sl _ _ _ _ cap _ x p hg he hle hp hc =>
      obtain ⟨y', hy', hb⟩ := hM.rep id _ hid
      obtain rfl : x = y' := by rw [hg] at hy'; injection hy'
      obtain ⟨cvs, h1, h2, h3, h4, h5⟩ := read_rep hb hl hgs
      refine ⟨len, vs, cvs, h, fun w' => by simp [Builtin.lenOf], fun w' hw => ?_, fun w' q hw hq => ?_, h1, h2, h3⟩
      · by_cases h0 : len = 0
        · subst h0
          have hnil : cvs = [] := List.eq_nil_of_length_eq_zero (by omega)
          subst hnil
          exact run_firstCells_some (P := P) w' z 0 p 0 cap [] (by simp) (by simp)
        · have hp := hp (by omega)
          subst hp
          exact run_firstCells_some (P := P) w' z len _ len cap cvs h3 fun j v hj => by rw [addr_add, Ev.cell_at, hw]; exact h4 j v hj
      · by_cases h0 : len = 0
        · subst h0
          obtain rfl : q = 0 := by omega
          simp only [Nat.zero_mul, List.take_zero]
          exact run_firstCells_some (P := P) w' z 0 p 0 cap [] (by simp) (by simp)
        · have hp := hp (by omega)
          subst hp
          have hq' : q * z ≤ len * z := Nat.mul_le_mul_right _ hq
          exact run_firstCells_some (P := P) w' z q _ len cap (cvs.take (q * z)) (by rw [List.length_take]; omega) fun j v hj => by rw [addr_add, Ev.cell_at, hw]; exact At.take h4 j v hj
  · rename_i l
    replace h := bb_some h; obtain ⟨hz, h⟩ := h
    rw [Nat.beq_eq] at hz
    subst hz
    cases hy with | str e hs =>
      rename_i s
      subst e
      have hcells : ∀ w', (Builtin.firstCells 1 s.size (.string s)).run P w' = .ok (s.data.toList.map fun b => Value.int .u8 b.toNat).toArray w' := fun w' => by
        simp [Builtin.firstCells]
        apply Array.ext'
        simp
      rw [natsOf_length] at h
      refine ⟨s.size, _, (s.data.toList.map fun b => Value.int .u8 b.toNat), h, fun w' => by simp [Builtin.lenOf], fun w' _ => hcells w', fun w' k _ hk => ?_, ?_, ?_, by rw [List.length_map, size_list]; omega⟩
      · simp [Builtin.firstCells]
        apply Array.ext'
        simp
      · unfold natsOf
        rw [List.map_map]
        generalize s.data.toList = l
        induction l with
        | nil => exact .nil
        | cons b l ih => exact .cons (.int _ _) ih
      · intro v hv
        obtain ⟨c, _, rfl⟩ := List.mem_map.1 hv
        rfl
  · cases h
end Go.Eb
