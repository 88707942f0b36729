/-
The closed evaluator: append, copy, clear, make.
-/
import Derived.Test.YthglbpibfhfgnaaGreatDoorEb5
set_option linter.unusedVariables false
set_option linter.unusedSimpArgs false
namespace Go.Eb
open Go.Ev (szT byT aggO offT fszT TK kindT elemK zok LK leavesT openB kind_slice kind_array kind_str kind_int run_sizeOf szT_info addr_add At zok_is)
variable {A : Type} {P : Program} {w0 : World} {g : Env} {F : Fr} {M : Mm} {n m : Nat} {a : Act} {w : World} {K : V → Mm → Nat → Option A} {r : A}

/-- What is appended has no type of whole numbers. -/
def NoInt (P : Program) (u : TypeId) : Prop := (∃ e, P.underlying u = some (.slice e)) ∨ P.underlying u = some .string

section runs
variable {t u ty e : TypeId} {i : TypeInfo} {z : Value} {cy : Value} {q : Nat} {vs : List V} {cvs : List Value}
theorem app_nil (ht : P.underlying t = some (.slice e)) (hu : NoInt P u) (hi : P.info? e = some i) (hz : i.zero = some z) (hs : Src P g w i.size cy q vs cvs) (h0 : 0 < q) (hb : q * i.bytes ≤ 140737488355328) (hq : q ≤ 140737488355328) :
    (Builtin.append_ #[t, u] ty #[.slice none 0 0, cy]).run P w =
      .ok (.slice (some ⟨w.heap.size, 0, none⟩) q (grownCap w q 0 e)) (w.drew.alloc (.cells (cvs.toArray ++ Builtin.zeroCells z.cells (grownCap w q 0 e - q)) e)) := by
  have hn : q ≠ 0 := by omega
  have h63' : ¬ (9223372036854775807 < (q : Int)) := by omega
  have h48' : ¬ (281474976710656 < Builtin.nextslicecap q 0 * i.bytes) := by rw [nextslicecap_zero h0]; omega
  have hf := hs.cells w.drew rfl
  rcases hu with ⟨e', hu⟩ | hu <;>
  simp [Builtin.append_, run_underlying ht, run_underlying hu, sizeOf, typeInfo, zeroValue, hi, hz, hs.len, hn, h63', h48', Question.forced, run_firstCells_none, hf, newRow, grownCap]
theorem app_grow (ht : P.underlying t = some (.slice e)) (hu : NoInt P u) (hi : P.info? e = some i) (hz : i.zero = some z) (hs : Src P g w i.size cy q vs cvs)
    (b : Addr) (sLen sCap : Nat) (olds : List Value) (holds : (Builtin.firstCells i.size sLen (.slice (some b) sLen sCap)).run P w.drew = .ok olds.toArray w.drew)
    (hg : sCap < sLen + q) (hb : (sLen + q) * i.bytes ≤ 140737488355328) (hq : sLen + q ≤ 140737488355328) :
    (Builtin.append_ #[t, u] ty #[.slice (some b) sLen sCap, cy]).run P w =
      .ok (.slice (some ⟨w.heap.size, 0, none⟩) (sLen + q) (grownCap w (sLen + q) sCap e))
        (w.drew.alloc (.cells (olds.toArray ++ cvs.toArray ++ Builtin.zeroCells z.cells (grownCap w (sLen + q) sCap e - (sLen + q))) e)) := by
  have hn : ¬ (sLen + q ≤ sCap) := by omega
  have h63' : ¬ (9223372036854775807 < ((sLen : Int) + (q : Int))) := by omega
  have hfit := growslice_fits (need := sLen + q) (old := sCap) (bytes := i.bytes) (by omega) hb
  have h48' : ¬ (281474976710656 < Builtin.nextslicecap (sLen + q) sCap * i.bytes) := by omega
  have hf := hs.cells w.drew rfl
  rcases hu with ⟨e', hu⟩ | hu <;>
  · simp [Builtin.append_, run_underlying ht, run_underlying hu, sizeOf, typeInfo, zeroValue, hi, hz, hs.len, hn, h63', h48', Question.forced, hf, holds, newRow, grownCap]
    congr 2
    apply Array.ext'
    simp [List.append_assoc]
theorem app_room (ht : P.underlying t = some (.slice e)) (hu : NoInt P u) (hi : P.info? e = some i) (hs : Src P g w i.size cy q vs cvs)
    (b off sLen sCap : Nat) (hroom : sLen + q ≤ sCap) {cells : Array Value} {ty' : TypeId} {fr : Nat × Nat} (hb : w.heap[b]? = some (.cells cells ty' fr)) (hf : openB fr cells.size) (hle : off + sLen * i.size + cvs.length ≤ cells.size) :
    (Builtin.append_ #[t, u] ty #[.slice (some ⟨b, off, none⟩) sLen sCap, cy]).run P w = .ok (.slice (some ⟨b, off, none⟩) (sLen + q) sCap) (w.setCells b (off + sLen * i.size) cvs) := by
  have hfc := hs.cells w rfl
  have hst := run_storeCells_cells (P := P) b (off + sLen * i.size) cvs 0 w (fun j hj => by
      rw [Ev.cell_at]; unfold Ev.cellAt; rw [hb]
      show (cells[off + sLen * i.size + 0 + j]?).isSome = true
      simp; omega) (fun j hj => by
      unfold World.frozen?
      rw [hb]
      have := hf (off + sLen * i.size + 0 + j) (by omega)
      simp only [Bool.and_eq_false_iff, decide_eq_false_iff_not]
      omega) (hs.rep.ones hs.one)
  simp only [Nat.add_zero] at hst
  rcases hu with ⟨e', hu⟩ | hu <;>
  simp [Builtin.append_, run_underlying ht, run_underlying hu, sizeOf, typeInfo, hi, hs.len, hroom, hfc, Addr.add_lit, hst]
theorem app_none (ht : P.underlying t = some (.slice e)) (hu : NoInt P u) (hi : P.info? e = some i) (hs : Src P g w i.size cy q vs cvs) (hq : q = 0) (b : Option Addr) (sLen sCap : Nat) (hle : sLen ≤ sCap) :
    (Builtin.append_ #[t, u] ty #[.slice b sLen sCap, cy]).run P w = .ok (.slice b sLen sCap) w := by
  subst hq
  have hn : cvs = [] := List.eq_nil_of_length_eq_zero (by rw [hs.n]; simp)
  subst hn
  have hfc := hs.cells w rfl
  rcases hu with ⟨e', hu⟩ | hu <;> cases b <;>
  simp [Builtin.append_, run_underlying ht, run_underlying hu, sizeOf, typeInfo, hi, hs.len, hfc, storeCells, hle]
end runs

/-- A block that goes by another number. -/
theorem RM.move (h : RM w0 g M n w) {w' : World} {id : Nat} {x x' : Lc} {b b' : Blk} (hb : M.get id = some b) (hg : g id = some x) (hx : x'.blk = x.blk)
    (hk : ∀ k, k ≠ x.blk → w'.heap[k]? = w.heap[k]?) (hsz : w'.heap.size = w.heap.size) (hb' : BlkRep (updG g n x') w'.heap x' b') (ht : w'.tape = w.tape) (ho : w'.os = w.os) (hu : w'.output = w.output) :
    RM w0 (updG g n x') ((M.set id none).set n (some b')) (n + 1) w' ∧ Mv g M w (updG g n x') ((M.set id none).set n (some b')) w' := by
  have hs := h.sub x'
  have key : ∀ i c, ((M.set id none).set n (some b')).get i = some c → (i = n ∧ c = b') ∨ (i ≠ n ∧ i ≠ id ∧ M.get i = some c) := fun i c hi => by
    rcases T.get_set hi with ⟨h1, h2⟩ | ⟨h1, h2⟩
    · injection h2 with h2; exact .inl ⟨h1, h2.symm⟩
    · rcases T.get_set h2 with ⟨h3, h4⟩ | ⟨h3, h4⟩
      · cases h4
      · exact .inr ⟨h1, h3, h4⟩
  have gold : ∀ i y, i ≠ n → updG g n x' i = some y → g i = some y := fun i y hi hy => by rw [updG_other hi] at hy; exact hy
  have gnew : ∀ y, updG g n x' n = some y → y = x' := fun y hy => by rw [updG_new] at hy; injection hy with hy; exact hy.symm
  have hl := h.lt id x hg
  refine ⟨⟨fun i c hi => ?_, fun i j y z c d hi hj hy hz e => ?_, fun i y hy => ?_, by rw [hsz]; exact h.size, fun k hk' => ?_, ht.trans h.tape, ho.trans h.os, hu.trans h.output, rfl⟩, ⟨hs, by rw [hsz]; exact Nat.le_refl _, fun k hk' hn => hk k (fun e => hn id x b hb hg e.symm), fun i y c hi hy hyl => ?_, fun i hi => updG_other (by have := h.top; omega), by show g.top ≤ n + 1; have := h.top; omega⟩⟩
  · rcases key i c hi with ⟨rfl, rfl⟩ | ⟨hne, hne', hi⟩
    · exact ⟨x', updG_new, hb'⟩
    · obtain ⟨y, hy, hr⟩ := h.rep i c hi
      exact ⟨y, hs i y hy, hr.ext hs (hk _ fun e => hne' (h.inj i id y x c b hi hb hy hg e))⟩
  · rcases key i c hi with ⟨rfl, rfl⟩ | ⟨hne, hne1, hi'⟩ <;> rcases key j d hj with ⟨rfl, rfl⟩ | ⟨hne', hne2, hj'⟩
    · rfl
    · have := gnew y hy; subst this
      exact absurd (h.inj j id z x d b hj' hb (gold j z hne' hz) hg (by omega)) hne2
    · have := gnew z hz; subst this
      exact absurd (h.inj i id y x c b hi' hb (gold i y hne hy) hg (by omega)) hne1
    · exact h.inj i j y z c d hi' hj' (gold i y hne hy) (gold j z hne' hz) e
  · by_cases hi : i = n
    · subst hi
      have := gnew y hy; subst this
      rw [hsz, hx]; omega
    · have := h.lt i y (gold i y hi hy)
      rw [hsz]; omega
  · rw [hk k (by omega)]; exact h.old k hk'
  · rcases key i c hi with ⟨rfl, rfl⟩ | ⟨hne, hne', hi⟩
    · have := gnew y hy; subst this
      exact ⟨id, x, b, hb, hg, hx.symm⟩
    · exact ⟨i, y, c, hi, gold i y hne hy, rfl⟩

theorem noInt_of {t u e : TypeId} (hk : elemK (kindT P t) = some e) (h : (Nat.beq t u || (match kindT P u with | .str => true | _ => false)) = true) : kindT P t = .slice e ∧ NoInt P u := by
  have ht : kindT P t = .slice e := by
    unfold elemK at hk
    split at hk
    · rename_i e' h'; injection hk with hk; subst hk; exact h'
    · cases hk
  refine ⟨ht, ?_⟩
  rw [Bool.or_eq_true, Nat.beq_eq] at h
  rcases h with h | h
  · exact .inl ⟨e, by rw [← show t = u from h]; exact kind_slice ht⟩
  · split at h
    · rename_i hs; exact .inr (kind_str hs)
    · cases h

theorem growK_some {z len q : Nat} {ws vs : List V} (h : growK M n z len q ws vs K = some r) : ∃ c, (∀ j u, c.get j = some u → (ws ++ vs)[j]? = some u) ∧ K (.sl n 0 z (len + q) none) (M.set n (some (.cells (ws ++ vs).length false c))) (n + 1) = some r := by
  unfold growK at h
  exact newCells_some h

theorem mul0 {q z : Nat} (h : q * z = 0) (hz : 0 < z) : q = 0 := (Nat.mul_eq_zero.1 h).resolve_right (by omega)
theorem isNil_true {vs : List V} (h : isNil vs = true) : vs = [] := by cases vs with | nil => rfl | cons _ _ => cases h
theorem isNil_false {vs : List V} (h : isNil vs = false) : vs ≠ [] := by cases vs with | nil => cases h | cons _ _ => simp

theorem appendB_did (hM : RM w0 g M n w) {t u ty e : TypeId} {x y : V} {cx cy : Value} (hk : elemK (kindT P t) = some e) (hu : (Nat.beq t u || (match kindT P u with | .str => true | _ => false)) = true) (hx : Rep g x cx) (hy : Rep g y cy)
    (h : appendB P M n e x y K = some r) : Did w0 g M w K r ((Builtin.append_ #[t, u] ty #[cx, cy]).run P w) := by
  obtain ⟨hk, hu⟩ := noInt_of hk hu
  have ht := kind_slice hk
  unfold appendB at h
  replace h := bb_some h; obtain ⟨hzk, h⟩ := h
  obtain ⟨i, z, hi, hz, hzs, hipos, hisz, hiby⟩ := zok_is hzk
  split at h
  · -- nil
    replace h := srcK_some (P := P) hM hy h; obtain ⟨q, vs, cvs, h, hs⟩ := h
    rw [← hisz] at hs h
    cases hx
    cases hn : isNil vs with
    | true =>
      rw [hn] at h
      have hv := isNil_true hn
      subst hv
      have hq : q = 0 := mul0 (by rw [← hs.n, ← hs.rep.length]; rfl) hipos
      rw [app_none ht hu hi hs hq none 0 0 (Nat.le_refl _)]
      exact (did_ok hM h .nils).did
    | false =>
      rw [hn] at h
      have hv := isNil_false hn
      replace h := bb_some h; obtain ⟨hb, h⟩ := h
      rw [Bool.and_eq_true] at hb
      have hb1 := Nat.le_of_ble_eq_true hb.1
      have hb2 := Nat.le_of_ble_eq_true hb.2
      obtain ⟨c, hc, h⟩ := growK_some h
      have hlen := hs.rep.length
      have hq : 0 < q := by
        rcases Nat.eq_zero_or_pos q with rfl | hq
        · have := hs.n; simp at this; subst this; simp at hlen; exact absurd hlen hv
        · exact hq
      rw [app_nil ht hu hi hz hs hq (by rw [hiby]; exact hb1) hb2]
      have hcap := grownCap_ge w q 0 e
      have hsz : (cvs.toArray ++ Builtin.zeroCells z.cells (grownCap w q 0 e - q)).size = grownCap w q 0 e * i.size := by
        rw [Array.size_append, List.size_toArray, size_zeroCells, hzs, hs.n, ← Nat.add_mul]; congr 1; omega
      obtain ⟨h2, h3⟩ := cells_alloc (w1 := w.drew) (ex := false) (vs := [] ++ vs) (c := c) (cells := cvs.toArray ++ Builtin.zeroCells z.cells (grownCap w q 0 e - q)) (ty := e) hM rfl rfl rfl rfl (by simpa using hs.rep) (by simpa using hs.one) hc
        (fun j u hj => by rw [Array.getElem?_append_left (by simpa using (List.getElem?_eq_some_iff.1 hj).1)]; simpa using hj) (by rw [hsz, List.nil_append, hlen, hs.n]; exact Nat.mul_le_mul_right _ hcap) (by simp)
      refine ⟨_, _, _, _, _, _, h, rfl, ?_, h2, h3⟩
      rw [Nat.zero_add]
      exact .sl (x := ⟨w.heap.size, 0, _⟩) updG_new hipos hcap (fun _ => rfl) (by show 0 + 0 + grownCap w q 0 e * i.size = _; rw [hsz]; dsimp only; omega)
  · rename_i id off zz len lim
    replace h := bb_some h; obtain ⟨hzz, h⟩ := h
    rw [Nat.beq_eq, ← hisz] at hzz
    subst hzz
    replace h := srcK_some (P := P) hM hy h; obtain ⟨q, vs, cvs, h, hs⟩ := h
    have hlen := hs.rep.length
    cases hx with | @sl _ _ _ _ cap _ x p hg he hle hp hcp =>
      cases hn : isNil vs with
      | true =>
        rw [hn] at h
        have hv := isNil_true hn
        subst hv
        have hq : q = 0 := mul0 (by rw [← hs.n, ← hlen]; rfl) hipos
        rw [app_none ht hu hi hs hq (some p) len cap hle]
        exact (did_ok hM h (.sl hg he hle hp hcp)).did
      | false =>
        rw [hn] at h
        have hv := isNil_false hn
        replace h := bb_some h; obtain ⟨hb, h⟩ := h
        rw [Bool.and_eq_true, ← hiby] at hb
        have hb1 := Nat.le_of_ble_eq_true hb.1
        have hb2 := Nat.le_of_ble_eq_true hb.2
        have hq : 0 < q := by
          rcases Nat.eq_zero_or_pos q with rfl | hq
          · have := hs.n; simp at this; subst this; simp at hlen; exact absurd hlen hv
          · exact hq
        replace h := capK_some' hM hg he hcp h; obtain ⟨c, ex, h, hcc, hc1, hc2, hc3, hc4⟩ := h
        have hcapsz : x.base + off + cap * i.size ≤ x.size := by
          cases lim with
          | none => exact Nat.le_of_eq hcp
          | some c' => exact hcp.2
        cases hroom : Nat.ble (len + q) c with
        | true =>
          rw [hroom] at h
          have hroom := Nat.le_of_ble_eq_true hroom
          replace h := cellsAt_some h; obtain ⟨k, ex', cs, hid, h⟩ := h
          replace h := bb_some h; obtain ⟨hb, h⟩ := h
          have hb := Nat.le_of_ble_eq_true hb
          obtain ⟨c', hc', h⟩ := writeK_some h
          rw [T.setK_set] at h
          have hmul : (len + q) * i.size = len * i.size + q * i.size := Nat.add_mul _ _ _
          obtain ⟨h2, h3, cells, ty', fr, h4, h5, h6, h7⟩ := write_ok hM hid hg hs.rep hs.one (by rw [hlen, hs.n]; omega) hc'
          have hp := hp (by omega)
          subst hp
          rw [app_room ht hu hi hs x.blk (x.base + off) len cap (by omega) h4 h5 (by omega), Nat.add_assoc]
          exact ⟨_, _, _, _, _, _, h, rfl, .sl hg he (by omega) (fun _ => rfl) hcp, h2, h3⟩
        | false =>
          rw [hroom] at h
          have hroom : c < len + q := by
            rcases Nat.lt_or_ge c (len + q) with h | h
            · exact h
            · have := Nat.ble_eq_true_of_le h; rw [hroom] at this; cases this
          replace h := cellsAt_some h; obtain ⟨k, ex', cs, hid, h⟩ := h
          replace h := readK_some h; obtain ⟨ws, hwl, hws, h⟩ := h
          obtain ⟨y', hy', hbr⟩ := hM.rep id _ hid
          obtain rfl : x = y' := by rw [hg] at hy'; injection hy'
          obtain ⟨olds, o1, o2, o3, o4, o5⟩ := read_rep hbr hwl hws
          -- a new block
          have grown : ∀ (M1 : Mm), RM w0 g M1 n w → Mv g M w g M1 w → growK M1 n i.size len q ws vs K = some r → cap < len + q → Did w0 g M w K r ((Builtin.append_ #[t, u] ty #[.slice (some p) len cap, cy]).run P w) := fun M1 hM1 hmv h hlt => by
            obtain ⟨c', hc', h⟩ := growK_some h
            have holds : (Builtin.firstCells i.size len (.slice (some p) len cap)).run P w.drew = .ok olds.toArray w.drew := by
              by_cases h0 : len = 0
              · subst h0
                have : olds = [] := List.eq_nil_of_length_eq_zero (by omega)
                subst this
                exact run_firstCells_some (P := P) w.drew i.size 0 p 0 cap [] (by simp) (by simp)
              · have hp := hp (by omega)
                subst hp
                exact run_firstCells_some (P := P) w.drew i.size len _ len cap olds o3 fun j v hj => by rw [addr_add, Ev.cell_at]; exact o4 j v hj
            rw [app_grow ht hu hi hz hs p len cap olds holds hlt hb1 hb2]
            have hcap := grownCap_ge w (len + q) cap e
            have hsz : (olds.toArray ++ cvs.toArray ++ Builtin.zeroCells z.cells (grownCap w (len + q) cap e - (len + q))).size = grownCap w (len + q) cap e * i.size := by
              rw [Array.size_append, Array.size_append, List.size_toArray, List.size_toArray, size_zeroCells, hzs, hs.n, o3, ← Nat.add_mul, ← Nat.add_mul]; congr 1; omega
            obtain ⟨h2, h3⟩ := cells_alloc (w1 := w.drew) (ex := false) (vs := ws ++ vs) (c := c') (cells := olds.toArray ++ cvs.toArray ++ Builtin.zeroCells z.cells (grownCap w (len + q) cap e - (len + q))) (ty := e) hM1 rfl rfl rfl rfl (o1.append hs.rep)
              (fun v hv => by rcases List.mem_append.1 hv with hv | hv; exact o2 v hv; exact hs.one v hv) hc'
              (fun j u hj => by
                rw [Array.getElem?_append_left (by simpa using (List.getElem?_eq_some_iff.1 hj).1)]
                rw [List.append_toArray]
                simpa using hj) (by rw [hsz, List.length_append, hwl, hlen, hs.n, ← Nat.add_mul]; exact Nat.mul_le_mul_right _ hcap) (by simp)
            refine ⟨_, _, _, _, _, _, h, rfl, ?_, h2, hmv.trans h3⟩
            exact .sl (x := ⟨w.heap.size, 0, _⟩) updG_new hipos hcap (fun _ => rfl) (by show 0 + 0 + grownCap w (len + q) cap e * i.size = _; rw [hsz]; dsimp only; omega)
          cases ex with
          | true =>
            have := hc3 rfl
            exact grown M hM (.refl g M w) h (by omega)
          | false =>
            replace h := bb_some h; obtain ⟨hb, h⟩ := h
            rw [Nat.beq_eq] at hb
            rw [T.setK_set] at h
            have hdrop : ∀ id' c', (M.set id none).get id' = some c' → M.get id' = some c' := fun id' c' h' => by
              rcases T.get_set h' with ⟨_, h2⟩ | ⟨_, h2⟩
              · cases h2
              · exact h2
            obtain ⟨rfl, _⟩ := hc4 rfl
            have hcp' : x.base + off + cap * i.size = x.size := hcp
            by_cases hin : len + q ≤ cap
            · -- in place
              obtain ⟨c', hc', h⟩ := growK_some h
              have hp := hp (by omega)
              subst hp
              obtain ⟨cs0, ty0, fr0, b1, b2, b3, b4, b5, b6⟩ := hbr
              have hfit : len * i.size + q * i.size ≤ cap * i.size := by rw [← Nat.add_mul]; exact Nat.mul_le_mul_right _ hin
              have hcvs := hs.n
              obtain ⟨cells', s1, s2, s3, s4, s5, s6, s7, s8⟩ := Ev.setCells_is cvs (x.base + off + len * i.size) w cs0 b1 (by omega)
              rw [app_room ht hu hi hs x.blk (x.base + off) len cap hin b1 b3 (by omega)]
              have hpre : (cs0.toList.take (x.base + off + len * i.size)).length = x.base + off + len * i.size := by rw [List.length_take, Array.length_toList]; omega
              have hmv := hM.move (x' := ⟨x.blk, x.base + off, x.size⟩) (b' := .cells (ws ++ vs).length false c') hid hg rfl s4 s5 ⟨cells', ty0, fr0, s1, by show cells'.size = x.size; omega, by rw [s3]; exact b3, by
                  show x.base + off + (ws ++ vs).length ≤ x.size
                  rw [List.length_append, hwl, hlen, hcvs]; omega, by simp, fun j v hj => by
                have hj := hc' j v hj
                obtain ⟨cv, hcv, hr⟩ := (o1.append hs.rep).get hj
                have hjl : j < len * i.size + q * i.size := by have := (List.getElem?_eq_some_iff.1 hj).1; rw [List.length_append, hwl, hlen, hcvs] at this; exact this
                refine ⟨(List.getElem?_eq_some_iff.1 hj).1, by rcases List.mem_append.1 (List.mem_of_getElem? hj) with h' | h'; exact o2 v h'; exact hs.one v h', cv, ?_, hr.mono (hM.sub _)⟩
                show cells'[x.base + off + j]? = some cv
                rw [← Array.getElem?_toList, s2]
                by_cases hjo : j < len * i.size
                · rw [List.getElem?_append_left (by omega)] at hcv
                  rw [List.getElem?_append_left (by omega), List.getElem?_take, if_pos (by omega), Array.getElem?_toList]
                  have := o4 j cv hcv
                  unfold Ev.cellAt at this
                  rw [b1] at this
                  exact this
                · rw [List.getElem?_append_right (by omega)] at hcv
                  rw [List.getElem?_append_right (by omega), hpre, List.getElem?_append_left (by omega)]
                  rw [show x.base + off + j - (x.base + off + len * i.size) = j - olds.length by omega]; exact hcv⟩ s7 s6 s8
              refine ⟨_, _, _, _, _, _, h, rfl, ?_, hmv.1, hmv.2⟩
              exact .sl (x := ⟨x.blk, x.base + off, x.size⟩) updG_new he (by omega) (fun _ => rfl) (by show x.base + off + 0 + cap * i.size = x.size; omega)
            · exact grown _ (hM.drop hdrop) ⟨.refl g, Nat.le_refl _, fun _ _ _ => rfl, fun id' x' c' h1 h2 _ => ⟨id', x', c', hdrop _ _ h1, h2, rfl⟩, fun _ _ => rfl, Nat.le_refl _⟩ h (by omega)
  · cases h
end Go.Eb
