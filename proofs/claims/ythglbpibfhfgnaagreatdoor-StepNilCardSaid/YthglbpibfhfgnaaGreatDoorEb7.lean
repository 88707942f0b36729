/-
The closed evaluator: copy, clear, make; literals.
-/
import Derived.Test.YthglbpibfhfgnaaGreatDoorEb6
import Derived.Laws.MakeOwn
set_option linter.unusedVariables false
set_option linter.unusedSimpArgs false
namespace Go.Eb
open Go.Ev (szT byT aggO offT fszT TK kindT elemK zok LK leavesT openB kind_slice kind_array kind_str kind_int run_sizeOf szT_info addr_add At zok_is)
variable {A : Type} {P : Program} {w0 : World} {g : Env} {F : Fr} {M : Mm} {n m : Nat} {a : Act} {w : World} {K : V → Mm → Nat → Option A} {r : A}

theorem flat_rep_get {α : Type} (zs : List α) : ∀ (k j : Nat), j < k * zs.length → (List.replicate k zs).flatten[j]? = zs[j % zs.length]?
  | 0, j, h => by simp at h
  | k + 1, j, h => by
    rw [List.replicate_succ, List.flatten_cons]
    by_cases hj : j < zs.length
    · rw [List.getElem?_append_left hj, Nat.mod_eq_of_lt hj]
    · rw [List.getElem?_append_right (by omega), flat_rep_get zs k (j - zs.length) (by rw [Nat.add_mul] at h; omega), ← Nat.mod_eq_sub_mod (by omega)]
theorem flat_rep_len {α : Type} (zs : List α) (k : Nat) : (List.replicate k zs).flatten.length = k * zs.length := by simp
/-- A zero value many times over. -/
theorem zeros_rep {zs : List V} {z : Value} (hr : RepL g zs z.cells.toList) (k : Nat) (hz : 0 < zs.length) : RepL g (List.replicate k zs).flatten ((Array.range (k * z.cells.size)).map (z.cells[· % z.cells.size]!)).toList := by
  have hl := hr.length
  have hl' : zs.length = z.cells.size := by rw [hl]; exact Array.length_toList
  refine RepL.of_get (by simp [hl']) fun i v hi => ?_
  have hik : i < k * zs.length := by rw [← flat_rep_len]; exact (List.getElem?_eq_some_iff.1 hi).1
  rw [flat_rep_get zs k i hik] at hi
  obtain ⟨cv, hcv, h⟩ := hr.get hi
  refine ⟨cv, ?_, h⟩
  have hm : i % z.cells.size < z.cells.size := Nat.mod_lt _ (by omega)
  rw [hl', Array.getElem?_toList] at hcv
  rw [hl'] at hik
  have : z.cells[i % z.cells.size]! = cv := by rw [getElem!_def, hcv]
  simp [hik, this]
theorem zeros_ones {zs : List V} (h1 : ∀ v ∈ zs, c1 v = true) (k : Nat) : ∀ v ∈ (List.replicate k zs).flatten, c1 v = true := fun v hv => by
  obtain ⟨l, hl, hv⟩ := List.mem_flatten.1 hv
  rw [(List.mem_replicate.1 hl).2] at hv
  exact h1 v hv

theorem copyB_did (hM : RM w0 g M n w) {t u ty e : TypeId} {x y : V} {cx cy : Value} (hk : elemK (kindT P t) = some e) (hx : Rep g x cx) (hy : Rep g y cy) (h : copyB P M n e x y K = some r) :
    Did w0 g M w K r ((Builtin.copy_ #[t, u] ty #[cx, cy]).run P w) := by
  have ht : P.underlying t = some (.slice e) := by
    unfold elemK at hk
    split at hk
    · rename_i e' h'; injection hk with hk; subst hk; exact kind_slice h'
    · cases hk
  unfold copyB at h
  split at h
  · rename_i id off z len lim
    replace h := bb_some h; obtain ⟨hz, h⟩ := h
    simp only [Bool.and_eq_true, Nat.beq_eq, Nat.blt_eq] at hz
    obtain ⟨rfl, hpos⟩ := hz
    replace h := srcK_some (P := P) hM hy h; obtain ⟨q, vs, cvs, h, hs⟩ := h
    replace h := cellsAt_some h; obtain ⟨k, ex, c, hid, h⟩ := h
    replace h := bb_some h; obtain ⟨hb, h⟩ := h
    have hb := Nat.le_of_ble_eq_true hb
    replace h := writeK_some h; obtain ⟨c', hc', h⟩ := h
    rw [T.setK_set, kN_eq] at h
    obtain ⟨i, hi⟩ := szT_info hpos
    have his : i.size = szT P e := by simp [szT, hi]
    have hlen := hs.rep.length
    have hq := hs.n
    have hmin : Nat.min q len ≤ q := Nat.min_le_left _ _
    have hmin' : Nat.min q len ≤ len := Nat.min_le_right _ _
    have hm1 : Nat.min q len * szT P e ≤ q * szT P e := Nat.mul_le_mul_right _ hmin
    have hm2 : Nat.min q len * szT P e ≤ len * szT P e := Nat.mul_le_mul_right _ hmin'
    have htk : (vs.take (Nat.min q len * szT P e)).length = Nat.min q len * szT P e := by rw [List.length_take]; omega
    cases hx with | @sl _ _ _ _ cap _ x p hg he hle hp hcp =>
      obtain ⟨h2, h3, cells, ty', fr, h4, h5, h6, h7⟩ := write_ok hM hid hg (hs.rep.take (Nat.min q len * szT P e)) (fun v hv => hs.one v (List.mem_of_mem_take hv)) (by omega) hc'
      have hfc := hs.some w (Nat.min q len) rfl hmin
      have hp' : 0 < len → p = ⟨x.blk, x.base + off, none⟩ := fun h0 => hp (by omega)
      by_cases h0 : Nat.min q len = 0
      · have hrun : (Builtin.copy_ #[t, u] ty #[.slice (some p) len cap, cy]).run P w = .ok (.int .i64 ((Nat.min q len : Nat) : Int)) w := by
          rw [h0] at hfc ⊢
          simp only [Nat.zero_mul, List.take_zero] at hfc
          simp [Builtin.copy_, run_underlying ht, run_sizeOf hi, his, hs.len, h0, hfc, storeCells, goInt]
        rw [h0] at h2 h3
        simp only [Nat.zero_mul, List.take_zero, World.setCells] at h2 h3
        exact ⟨_, _, _, _, _, _, h, hrun, .int _ _, h2, h3⟩
      · have hp'' := hp' (by omega)
        subst hp''
        have hst := run_storeCells_cells (P := P) x.blk (x.base + off) (cvs.take (Nat.min q len * szT P e)) 0 w (fun j hj => by
            rw [Ev.cell_at]; unfold Ev.cellAt; rw [h4]
            show (cells[x.base + off + 0 + j]?).isSome = true
            simp; omega) (fun j hj => by
            unfold World.frozen?
            rw [h4]
            have := h5 (x.base + off + 0 + j) (by omega)
            simp only [Bool.and_eq_false_iff, decide_eq_false_iff_not]
            omega) (fun u hu => hs.rep.ones hs.one u (List.mem_of_mem_take hu))
        have hrun : (Builtin.copy_ #[t, u] ty #[.slice (some ⟨x.blk, x.base + off, none⟩) len cap, cy]).run P w = .ok (.int .i64 ((Nat.min q len : Nat) : Int)) (w.setCells x.blk (x.base + off) (cvs.take (Nat.min q len * szT P e))) := by
          simp only [Nat.add_zero] at hst
          simp [Builtin.copy_, run_underlying ht, run_sizeOf hi, his, hs.len, hfc, hst, goInt]
        exact ⟨_, _, _, _, _, _, h, hrun, .int _ _, h2, h3⟩
  · cases h

theorem clearB_did (hM : RM w0 g M n w) {t ty : TypeId} {x : V} {cx : Value} (hx : Rep g x cx) (h : clearB P M n t x K = some r) : Did w0 g M w K r ((Builtin.clear_ #[t] ty #[cx]).run P w) := by
  unfold clearB at h
  split at h
  · rename_i e hk
    cases hx
    exact (show (Builtin.clear_ #[t] ty #[.slice none 0 0]).run P w = .ok (.tuple #[]) w by simp [Builtin.clear_, run_underlying (kind_slice hk)]) ▸ (did_ok hM h (.tup .nil)).did
  · rename_i e id off z len lim hk
    have hu := kind_slice hk
    cases hx with | @sl _ _ _ _ cap _ x p hg he hle hp hcp =>
      cases hl0 : Nat.beq len 0 with
      | true =>
        rw [hl0] at h
        obtain rfl : len = 0 := by rwa [Nat.beq_eq] at hl0
        exact (show (Builtin.clear_ #[t] ty #[.slice (some p) 0 cap]).run P w = .ok (.tuple #[]) w by simp [Builtin.clear_, run_underlying hu]) ▸ (did_ok hM h (.tup .nil)).did
      | false =>
        rw [hl0] at h
        replace h := ob_some h; obtain ⟨zv, hzv, h⟩ := h
        replace h := ob_some h; obtain ⟨zs, hzs, h⟩ := h
        replace h := bb_some h; obtain ⟨hz, h⟩ := h
        simp only [Bool.and_eq_true, Nat.beq_eq, Nat.blt_eq] at hz
        obtain ⟨rfl, hpos⟩ := hz
        replace h := cellsAt_some h; obtain ⟨k, ex, c, hid, h⟩ := h
        replace h := bb_some h; obtain ⟨hb, h⟩ := h
        have hb := Nat.le_of_ble_eq_true hb
        replace h := writeK_some h; obtain ⟨c', hc', h⟩ := h
        rw [T.setK_set] at h
        obtain ⟨i, zc, hi, hiz, hrz⟩ := zeroV_rep (P := P) (g := g) hzv
        obtain ⟨hr, h1⟩ := cellsO_rep hzs hrz
        have hrl := zeros_rep hr len hpos
        have hzl : zs.length = zc.cells.size := by rw [hr.length]; exact Array.length_toList
        obtain ⟨h2, h3, cells, ty', fr, h4, h5, h6, h7⟩ := write_ok hM hid hg hrl (zeros_ones h1 len) (by rw [flat_rep_len]; exact hb) hc'
        rw [flat_rep_len] at h6
        have hlen' : 0 < len := Nat.pos_of_ne_zero (fun e => by subst e; cases hl0)
        have hp' := hp (by omega)
        subst hp'
        have hst := run_storeCells_cells (P := P) x.blk (x.base + off) ((Array.range (len * zc.cells.size)).map (zc.cells[· % zc.cells.size]!)).toList 0 w (fun j hj => by
            rw [Ev.cell_at]; unfold Ev.cellAt; rw [h4]
            rw [h7, flat_rep_len] at hj
            show (cells[x.base + off + 0 + j]?).isSome = true
            simp; omega) (fun j hj => by
            unfold World.frozen?
            rw [h4]
            rw [h7, flat_rep_len] at hj
            have := h5 (x.base + off + 0 + j) (by omega)
            simp only [Bool.and_eq_false_iff, decide_eq_false_iff_not]
            omega) (hrl.ones (zeros_ones h1 len))
        have hrun : (Builtin.clear_ #[t] ty #[.slice (some ⟨x.blk, x.base + off, none⟩) len cap]).run P w = .ok (.tuple #[]) (w.setCells x.blk (x.base + off) ((Array.range (len * zc.cells.size)).map (zc.cells[· % zc.cells.size]!)).toList) := by
          simp only [Nat.add_zero] at hst
          obtain ⟨len', rfl⟩ : ∃ l, len = l + 1 := ⟨len - 1, by omega⟩
          simp only [Builtin.clear_, Sem.run_bind, run_underlying hu, Result.andThen_ok, List.getElem?_toArray, List.getElem?_cons_zero, zeroValue, typeInfo, run_program, hi, Sem.run_pure, hiz, Builtin.zeroCells, hst]
        exact ⟨_, _, _, _, _, _, h, hrun, .tup .nil, h2, h3⟩
  · cases h
end Go.Eb
