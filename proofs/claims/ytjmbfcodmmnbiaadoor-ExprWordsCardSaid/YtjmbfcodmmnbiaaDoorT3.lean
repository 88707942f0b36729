import Derived.Laws.MakeOwn
import Derived.Laws.IdiomStrings
import Derived.Lib.Bytealg
import Derived.Laws.Externs
import Derived.Orders
import Derived.LoopN
import Derived.Test.YtjmbfcodmmnbiaaDoorT2
set_option linter.unusedVariables false
set_option linter.unusedSimpArgs false
/-
The closed evaluator: append, copy, clear, make.
-/
set_option linter.unusedVariables false
set_option linter.unusedSimpArgs false
namespace Go.Eb
open Go.Ev (szT byT aggO offT fszT TK kindT elemK zok LK leavesT kind_slice kind_array kind_str kind_int run_sizeOf szT_info addr_add At zok_is)
variable {A : Type} {P : Program} {w0 : World} {g : Env} {F : Fr} {M : Mm} {n m : Nat} {a : Act} {w : World} {K : V → Mm → Nat → Option A} {r : A}

/-- What is appended has no type of whole numbers. -/
def NoInt (P : Program) (u : TypeId) : Prop := (∃ e, P.underlying u = some (.slice e)) ∨ P.underlying u = some .string

section runs
variable {t u ty e : TypeId} {i : TypeInfo} {z : Value} {cy : Value} {q : Nat} {vs : List V} {cvs : List Value}
theorem app_nil (ht : P.underlying t = some (.slice e)) (hu : NoInt P u) (hi : P.info? e = some i) (hz : i.zero = some z) (hs : Src P g w i.size cy q vs cvs) (h0 : 0 < q) (hb : q * i.bytes ≤ 140737488355328) (hq : q ≤ 140737488355328) :
    (Builtin.append_ #[t, u] ty #[.slice none 0 0, cy]).run P w =
      .ok (.slice (some ⟨w.heap.size, 0, none⟩) q (grownCap w q 0 e)) (w.drew.alloc (.cells (cvs.toArray ++ Builtin.zeroCells z.cells (grownCap w q 0 e - q)) e)) := by
  have hn : q ≠ 0 := by omega
  have h63' : ¬ (9223372036854775807 < (q : Int)) := by omega
  have h48' : ¬ (281474976710656 < Builtin.nextslicecap q 0 * i.bytes) := by rw [nextslicecap_zero h0]; omega
  have hf := hs.cells w.drew rfl
  rcases hu with ⟨e', hu⟩ | hu <;>
  simp [Builtin.append_, run_underlying ht, run_underlying hu, sizeOf, typeInfo, zeroValue, hi, hz, hs.len, hn, h63', h48', Question.forced, run_firstCells_none, hf, newRow, grownCap]
theorem app_grow (ht : P.underlying t = some (.slice e)) (hu : NoInt P u) (hi : P.info? e = some i) (hz : i.zero = some z) (hs : Src P g w i.size cy q vs cvs)
    (b : Addr) (sLen sCap : Nat) (olds : List Value) (holds : (Builtin.firstCells i.size sLen (.slice (some b) sLen sCap)).run P w.drew = .ok olds.toArray w.drew)
    (hg : sCap < sLen + q) (hb : (sLen + q) * i.bytes ≤ 140737488355328) (hq : sLen + q ≤ 140737488355328) :
    (Builtin.append_ #[t, u] ty #[.slice (some b) sLen sCap, cy]).run P w =
      .ok (.slice (some ⟨w.heap.size, 0, none⟩) (sLen + q) (grownCap w (sLen + q) sCap e))
        (w.drew.alloc (.cells (olds.toArray ++ cvs.toArray ++ Builtin.zeroCells z.cells (grownCap w (sLen + q) sCap e - (sLen + q))) e)) := by
  have hn : ¬ (sLen + q ≤ sCap) := by omega
  have h63' : ¬ (9223372036854775807 < ((sLen : Int) + (q : Int))) := by omega
  have hfit := growslice_fits (need := sLen + q) (old := sCap) (bytes := i.bytes) (by omega) hb
  have h48' : ¬ (281474976710656 < Builtin.nextslicecap (sLen + q) sCap * i.bytes) := by omega
  have hf := hs.cells w.drew rfl
  rcases hu with ⟨e', hu⟩ | hu <;>
  · simp [Builtin.append_, run_underlying ht, run_underlying hu, sizeOf, typeInfo, zeroValue, hi, hz, hs.len, hn, h63', h48', Question.forced, hf, holds, newRow, grownCap]
    congr 2
    apply Array.ext'
    simp [List.append_assoc]
theorem app_room (ht : P.underlying t = some (.slice e)) (hu : NoInt P u) (hi : P.info? e = some i) (hs : Src P g w i.size cy q vs cvs)
    (b off sLen sCap : Nat) (hroom : sLen + q ≤ sCap) {cells : Array Value} {ty' : TypeId} {fr : Nat × Nat} (hb : w.heap[b]? = some (.cells cells ty' fr)) (hf : openB fr cells.size) (hle : off + sLen * i.size + cvs.length ≤ cells.size) :
    (Builtin.append_ #[t, u] ty #[.slice (some ⟨b, off, none⟩) sLen sCap, cy]).run P w = .ok (.slice (some ⟨b, off, none⟩) (sLen + q) sCap) (w.setCells b (off + sLen * i.size) cvs) := by
  have hfc := hs.cells w rfl
  have hst := run_storeCells_cells (P := P) b (off + sLen * i.size) cvs 0 w (fun j hj => by
      rw [Ev.cell_at]; unfold Ev.cellAt; rw [hb]
      show (cells[off + sLen * i.size + 0 + j]?).isSome = true
      simp; omega) (fun j hj => by
      unfold World.frozen?
      rw [hb]
      have := hf (off + sLen * i.size + 0 + j) (by omega)
      simp only [Bool.and_eq_false_iff, decide_eq_false_iff_not]
      omega) (hs.rep.ones hs.one)
  simp only [Nat.add_zero] at hst
  rcases hu with ⟨e', hu⟩ | hu <;>
  simp [Builtin.append_, run_underlying ht, run_underlying hu, sizeOf, typeInfo, hi, hs.len, hroom, hfc, Addr.add_lit, hst]
theorem app_none (ht : P.underlying t = some (.slice e)) (hu : NoInt P u) (hi : P.info? e = some i) (hs : Src P g w i.size cy q vs cvs) (hq : q = 0) (b : Option Addr) (sLen sCap : Nat) (hle : sLen ≤ sCap) :
    (Builtin.append_ #[t, u] ty #[.slice b sLen sCap, cy]).run P w = .ok (.slice b sLen sCap) w := by
  subst hq
  have hn : cvs = [] := List.eq_nil_of_length_eq_zero (by rw [hs.n]; simp)
  subst hn
  have hfc := hs.cells w rfl
  rcases hu with ⟨e', hu⟩ | hu <;> cases b <;>
  simp [Builtin.append_, run_underlying ht, run_underlying hu, sizeOf, typeInfo, hi, hs.len, hfc, storeCells, hle]
end runs

/-- A block that goes by another number. -/
theorem RM.move (h : RM w0 g M n w) {w' : World} {id : Nat} {x x' : Lc} {b b' : Blk} (hb : M.get id = some b) (hg : g id = some x) (hx : x'.blk = x.blk)
    (hk : ∀ k, k ≠ x.blk → w'.heap[k]? = w.heap[k]?) (hsz : w'.heap.size = w.heap.size) (hb' : BlkRep (updG g n x') w'.heap x' b') (ht : w'.tape = w.tape) (ho : w'.os = w.os) (hu : w'.output = w.output) :
    RM w0 (updG g n x') ((M.set id none).set n (some b')) (n + 1) w' ∧ Mv g M w (updG g n x') ((M.set id none).set n (some b')) w' := by
  have hs := h.sub x'
  have key : ∀ i c, ((M.set id none).set n (some b')).get i = some c → (i = n ∧ c = b') ∨ (i ≠ n ∧ i ≠ id ∧ M.get i = some c) := fun i c hi => by
    rcases T.get_set hi with ⟨h1, h2⟩ | ⟨h1, h2⟩
    · injection h2 with h2; exact .inl ⟨h1, h2.symm⟩
    · rcases T.get_set h2 with ⟨h3, h4⟩ | ⟨h3, h4⟩
      · cases h4
      · exact .inr ⟨h1, h3, h4⟩
  have gold : ∀ i y, i ≠ n → updG g n x' i = some y → g i = some y := fun i y hi hy => by rw [updG_other hi] at hy; exact hy
  have gnew : ∀ y, updG g n x' n = some y → y = x' := fun y hy => by rw [updG_new] at hy; injection hy with hy; exact hy.symm
  have hl := h.lt id x hg
  refine ⟨⟨fun i c hi => ?_, fun i j y z c d hi hj hy hz e => ?_, fun i y hy => ?_, by rw [hsz]; exact h.size, fun k hk' => ?_, ht.trans h.tape, ho.trans h.os, hu.trans h.output, rfl⟩, ⟨hs, by rw [hsz]; exact Nat.le_refl _, fun k hk' hn => hk k (fun e => hn id x b hb hg e.symm), fun i y c hi hy hyl => ?_, fun i hi => updG_other (by have := h.top; omega), by show g.top ≤ n + 1; have := h.top; omega⟩⟩
  · rcases key i c hi with ⟨rfl, rfl⟩ | ⟨hne, hne', hi⟩
    · exact ⟨x', updG_new, hb'⟩
    · obtain ⟨y, hy, hr⟩ := h.rep i c hi
      exact ⟨y, hs i y hy, hr.ext hs (hk _ fun e => hne' (h.inj i id y x c b hi hb hy hg e))⟩
  · rcases key i c hi with ⟨rfl, rfl⟩ | ⟨hne, hne1, hi'⟩ <;> rcases key j d hj with ⟨rfl, rfl⟩ | ⟨hne', hne2, hj'⟩
    · rfl
    · have := gnew y hy; subst this
      exact absurd (h.inj j id z x d b hj' hb (gold j z hne' hz) hg (by omega)) hne2
    · have := gnew z hz; subst this
      exact absurd (h.inj i id y x c b hi' hb (gold i y hne hy) hg (by omega)) hne1
    · exact h.inj i j y z c d hi' hj' (gold i y hne hy) (gold j z hne' hz) e
  · by_cases hi : i = n
    · subst hi
      have := gnew y hy; subst this
      rw [hsz, hx]; omega
    · have := h.lt i y (gold i y hi hy)
      rw [hsz]; omega
  · rw [hk k (by omega)]; exact h.old k hk'
  · rcases key i c hi with ⟨rfl, rfl⟩ | ⟨hne, hne', hi⟩
    · have := gnew y hy; subst this
      exact ⟨id, x, b, hb, hg, hx.symm⟩
    · exact ⟨i, y, c, hi, gold i y hne hy, rfl⟩

theorem noInt_of {t u e : TypeId} (hk : elemK (kindT P t) = some e) (h : (Nat.beq t u || (match kindT P u with | .str => true | _ => false)) = true) : kindT P t = .slice e ∧ NoInt P u := by
  have ht : kindT P t = .slice e := by
    unfold elemK at hk
    split at hk
    · rename_i e' h'; injection hk with hk; subst hk; exact h'
    · cases hk
  refine ⟨ht, ?_⟩
  rw [Bool.or_eq_true, Nat.beq_eq] at h
  rcases h with h | h
  · exact .inl ⟨e, by rw [← show t = u from h]; exact kind_slice ht⟩
  · split at h
    · rename_i hs; exact .inr (kind_str hs)
    · cases h

theorem growK_some {z len q : Nat} {ws vs : List V} (h : growK M n z len q ws vs K = some r) : ∃ c, (∀ j u, c.get j = some u → (ws ++ vs)[j]? = some u) ∧ K (.sl n 0 z (len + q) none) (M.set n (some (.cells (ws ++ vs).length false c))) (n + 1) = some r := by
  unfold growK at h
  exact newCells_some h

theorem mul0 {q z : Nat} (h : q * z = 0) (hz : 0 < z) : q = 0 := (Nat.mul_eq_zero.1 h).resolve_right (by omega)
theorem isNil_true {vs : List V} (h : isNil vs = true) : vs = [] := by cases vs with | nil => rfl | cons _ _ => cases h
theorem isNil_false {vs : List V} (h : isNil vs = false) : vs ≠ [] := by cases vs with | nil => cases h | cons _ _ => simp

theorem appendB_did (hM : RM w0 g M n w) {t u ty e : TypeId} {x y : V} {cx cy : Value} (hk : elemK (kindT P t) = some e) (hu : (Nat.beq t u || (match kindT P u with | .str => true | _ => false)) = true) (hx : Rep g x cx) (hy : Rep g y cy)
    (h : appendB P M n e x y K = some r) : Did w0 g M w K r ((Builtin.append_ #[t, u] ty #[cx, cy]).run P w) := by
  obtain ⟨hk, hu⟩ := noInt_of hk hu
  have ht := kind_slice hk
  unfold appendB at h
  replace h := bb_some h; obtain ⟨hzk, h⟩ := h
  obtain ⟨i, z, hi, hz, hzs, hipos, hisz, hiby⟩ := zok_is hzk
  split at h
  · -- nil
    replace h := srcK_some (P := P) hM hy h; obtain ⟨q, vs, cvs, h, hs⟩ := h
    rw [← hisz] at hs h
    cases hx
    cases hn : isNil vs with
    | true =>
      rw [hn] at h
      have hv := isNil_true hn
      subst hv
      have hq : q = 0 := mul0 (by rw [← hs.n, ← hs.rep.length]; rfl) hipos
      rw [app_none ht hu hi hs hq none 0 0 (Nat.le_refl _)]
      exact (did_ok hM h .nils).did
    | false =>
      rw [hn] at h
      have hv := isNil_false hn
      replace h := bb_some h; obtain ⟨hb, h⟩ := h
      rw [Bool.and_eq_true] at hb
      have hb1 := Nat.le_of_ble_eq_true hb.1
      have hb2 := Nat.le_of_ble_eq_true hb.2
      obtain ⟨c, hc, h⟩ := growK_some h
      have hlen := hs.rep.length
      have hq : 0 < q := by
        rcases Nat.eq_zero_or_pos q with rfl | hq
        · have := hs.n; simp at this; subst this; simp at hlen; exact absurd hlen hv
        · exact hq
      rw [app_nil ht hu hi hz hs hq (by rw [hiby]; exact hb1) hb2]
      have hcap := grownCap_ge w q 0 e
      have hsz : (cvs.toArray ++ Builtin.zeroCells z.cells (grownCap w q 0 e - q)).size = grownCap w q 0 e * i.size := by
        rw [Array.size_append, List.size_toArray, size_zeroCells, hzs, hs.n, ← Nat.add_mul]; congr 1; omega
      obtain ⟨h2, h3⟩ := cells_alloc (w1 := w.drew) (ex := false) (vs := [] ++ vs) (c := c) (cells := cvs.toArray ++ Builtin.zeroCells z.cells (grownCap w q 0 e - q)) (ty := e) hM rfl rfl rfl rfl (by simpa using hs.rep) (by simpa using hs.one) hc
        (fun j u hj => by rw [Array.getElem?_append_left (by simpa using (List.getElem?_eq_some_iff.1 hj).1)]; simpa using hj) (by rw [hsz, List.nil_append, hlen, hs.n]; exact Nat.mul_le_mul_right _ hcap) (by simp)
      refine ⟨_, _, _, _, _, _, h, rfl, ?_, h2, h3⟩
      rw [Nat.zero_add]
      exact .sl (x := ⟨w.heap.size, 0, _⟩) updG_new hipos hcap (fun _ => rfl) (by show 0 + 0 + grownCap w q 0 e * i.size = _; rw [hsz]; dsimp only; omega)
  · rename_i id off zz len lim
    replace h := bb_some h; obtain ⟨hzz, h⟩ := h
    rw [Nat.beq_eq, ← hisz] at hzz
    subst hzz
    replace h := srcK_some (P := P) hM hy h; obtain ⟨q, vs, cvs, h, hs⟩ := h
    have hlen := hs.rep.length
    cases hx with | @sl _ _ _ _ cap _ x p hg he hle hp hcp =>
      cases hn : isNil vs with
      | true =>
        rw [hn] at h
        have hv := isNil_true hn
        subst hv
        have hq : q = 0 := mul0 (by rw [← hs.n, ← hlen]; rfl) hipos
        rw [app_none ht hu hi hs hq (some p) len cap hle]
        exact (did_ok hM h (.sl hg he hle hp hcp)).did
      | false =>
        rw [hn] at h
        have hv := isNil_false hn
        replace h := bb_some h; obtain ⟨hb, h⟩ := h
        rw [Bool.and_eq_true, ← hiby] at hb
        have hb1 := Nat.le_of_ble_eq_true hb.1
        have hb2 := Nat.le_of_ble_eq_true hb.2
        have hq : 0 < q := by
          rcases Nat.eq_zero_or_pos q with rfl | hq
          · have := hs.n; simp at this; subst this; simp at hlen; exact absurd hlen hv
          · exact hq
        replace h := capK_some' hM hg he hcp h; obtain ⟨c, ex, h, hcc, hc1, hc2, hc3, hc4⟩ := h
        have hcapsz : x.base + off + cap * i.size ≤ x.size := by
          cases lim with
          | none => exact Nat.le_of_eq hcp
          | some c' => exact hcp.2
        cases hroom : Nat.ble (len + q) c with
        | true =>
          rw [hroom] at h
          have hroom := Nat.le_of_ble_eq_true hroom
          replace h := cellsAt_some h; obtain ⟨k, ex', cs, hid, h⟩ := h
          replace h := bb_some h; obtain ⟨hb, h⟩ := h
          have hb := Nat.le_of_ble_eq_true hb
          obtain ⟨c', hc', h⟩ := writeK_some h
          rw [T.setK_set] at h
          have hmul : (len + q) * i.size = len * i.size + q * i.size := Nat.add_mul _ _ _
          obtain ⟨h2, h3, cells, ty', fr, h4, h5, h6, h7⟩ := write_ok hM hid hg hs.rep hs.one (by rw [hlen, hs.n]; omega) hc'
          have hp := hp (by omega)
          subst hp
          rw [app_room ht hu hi hs x.blk (x.base + off) len cap (by omega) h4 h5 (by omega), Nat.add_assoc]
          exact ⟨_, _, _, _, _, _, h, rfl, .sl hg he (by omega) (fun _ => rfl) hcp, h2, h3⟩
        | false =>
          rw [hroom] at h
          have hroom : c < len + q := by
            rcases Nat.lt_or_ge c (len + q) with h | h
            · exact h
            · have := Nat.ble_eq_true_of_le h; rw [hroom] at this; cases this
          replace h := cellsAt_some h; obtain ⟨k, ex', cs, hid, h⟩ := h
          replace h := readK_some h; obtain ⟨ws, hwl, hws, h⟩ := h
          obtain ⟨y', hy', hbr⟩ := hM.rep id _ hid
          obtain rfl : x = y' := by rw [hg] at hy'; injection hy'
          obtain ⟨olds, o1, o2, o3, o4, o5⟩ := read_rep hbr hwl hws
          -- a new block
          have grown : ∀ (M1 : Mm), RM w0 g M1 n w → Mv g M w g M1 w → growK M1 n i.size len q ws vs K = some r → cap < len + q → Did w0 g M w K r ((Builtin.append_ #[t, u] ty #[.slice (some p) len cap, cy]).run P w) := fun M1 hM1 hmv h hlt => by
            obtain ⟨c', hc', h⟩ := growK_some h
            have holds : (Builtin.firstCells i.size len (.slice (some p) len cap)).run P w.drew = .ok olds.toArray w.drew := by
              by_cases h0 : len = 0
              · subst h0
                have : olds = [] := List.eq_nil_of_length_eq_zero (by omega)
                subst this
                exact run_firstCells_some (P := P) w.drew i.size 0 p 0 cap [] (by simp) (by simp)
              · have hp := hp (by omega)
                subst hp
                exact run_firstCells_some (P := P) w.drew i.size len _ len cap olds o3 fun j v hj => by rw [addr_add, Ev.cell_at]; exact o4 j v hj
            rw [app_grow ht hu hi hz hs p len cap olds holds hlt hb1 hb2]
            have hcap := grownCap_ge w (len + q) cap e
            have hsz : (olds.toArray ++ cvs.toArray ++ Builtin.zeroCells z.cells (grownCap w (len + q) cap e - (len + q))).size = grownCap w (len + q) cap e * i.size := by
              rw [Array.size_append, Array.size_append, List.size_toArray, List.size_toArray, size_zeroCells, hzs, hs.n, o3, ← Nat.add_mul, ← Nat.add_mul]; congr 1; omega
            obtain ⟨h2, h3⟩ := cells_alloc (w1 := w.drew) (ex := false) (vs := ws ++ vs) (c := c') (cells := olds.toArray ++ cvs.toArray ++ Builtin.zeroCells z.cells (grownCap w (len + q) cap e - (len + q))) (ty := e) hM1 rfl rfl rfl rfl (o1.append hs.rep)
              (fun v hv => by rcases List.mem_append.1 hv with hv | hv; exact o2 v hv; exact hs.one v hv) hc'
              (fun j u hj => by
                rw [Array.getElem?_append_left (by simpa using (List.getElem?_eq_some_iff.1 hj).1)]
                rw [List.append_toArray]
                simpa using hj) (by rw [hsz, List.length_append, hwl, hlen, hs.n, ← Nat.add_mul]; exact Nat.mul_le_mul_right _ hcap) (by simp)
            refine ⟨_, _, _, _, _, _, h, rfl, ?_, h2, hmv.trans h3⟩
            exact .sl (x := ⟨w.heap.size, 0, _⟩) updG_new hipos hcap (fun _ => rfl) (by show 0 + 0 + grownCap w (len + q) cap e * i.size = _; rw [hsz]; dsimp only; omega)
          cases ex with
          | true =>
            have := hc3 rfl
            exact grown M hM (.refl g M w) h (by omega)
          | false =>
            replace h := bb_some h; obtain ⟨hb, h⟩ := h
            rw [Nat.beq_eq] at hb
            rw [T.setK_set] at h
            have hdrop : ∀ id' c', (M.set id none).get id' = some c' → M.get id' = some c' := fun id' c' h' => by
              rcases T.get_set h' with ⟨_, h2⟩ | ⟨_, h2⟩
              · cases h2
              · exact h2
            obtain ⟨rfl, _⟩ := hc4 rfl
            have hcp' : x.base + off + cap * i.size = x.size := hcp
            by_cases hin : len + q ≤ cap
            · -- in place
              obtain ⟨c', hc', h⟩ := growK_some h
              have hp := hp (by omega)
              subst hp
              obtain ⟨cs0, ty0, fr0, b1, b2, b3, b4, b5, b6⟩ := hbr
              have hfit : len * i.size + q * i.size ≤ cap * i.size := by rw [← Nat.add_mul]; exact Nat.mul_le_mul_right _ hin
              have hcvs := hs.n
              obtain ⟨cells', s1, s2, s3, s4, s5, s6, s7, s8⟩ := Ev.setCells_is cvs (x.base + off + len * i.size) w cs0 b1 (by omega)
              rw [app_room ht hu hi hs x.blk (x.base + off) len cap hin b1 b3 (by omega)]
              have hpre : (cs0.toList.take (x.base + off + len * i.size)).length = x.base + off + len * i.size := by rw [List.length_take, Array.length_toList]; omega
              have hmv := hM.move (x' := ⟨x.blk, x.base + off, x.size⟩) (b' := .cells (ws ++ vs).length false c') hid hg rfl s4 s5 ⟨cells', ty0, fr0, s1, by show cells'.size = x.size; omega, by rw [s3]; exact b3, by
                  show x.base + off + (ws ++ vs).length ≤ x.size
                  rw [List.length_append, hwl, hlen, hcvs]; omega, by simp, fun j v hj => by
                have hj := hc' j v hj
                obtain ⟨cv, hcv, hr⟩ := (o1.append hs.rep).get hj
                have hjl : j < len * i.size + q * i.size := by have := (List.getElem?_eq_some_iff.1 hj).1; rw [List.length_append, hwl, hlen, hcvs] at this; exact this
                refine ⟨(List.getElem?_eq_some_iff.1 hj).1, by rcases List.mem_append.1 (List.mem_of_getElem? hj) with h' | h'; exact o2 v h'; exact hs.one v h', cv, ?_, hr.mono (hM.sub _)⟩
                show cells'[x.base + off + j]? = some cv
                rw [← Array.getElem?_toList, s2]
                by_cases hjo : j < len * i.size
                · rw [List.getElem?_append_left (by omega)] at hcv
                  rw [List.getElem?_append_left (by omega), List.getElem?_take, if_pos (by omega), Array.getElem?_toList]
                  have := o4 j cv hcv
                  unfold Ev.cellAt at this
                  rw [b1] at this
                  exact this
                · rw [List.getElem?_append_right (by omega)] at hcv
                  rw [List.getElem?_append_right (by omega), hpre, List.getElem?_append_left (by omega)]
                  rw [show x.base + off + j - (x.base + off + len * i.size) = j - olds.length by omega]; exact hcv⟩ s7 s6 s8
              refine ⟨_, _, _, _, _, _, h, rfl, ?_, hmv.1, hmv.2⟩
              exact .sl (x := ⟨x.blk, x.base + off, x.size⟩) updG_new he (by omega) (fun _ => rfl) (by show x.base + off + 0 + cap * i.size = x.size; omega)
            · exact grown _ (hM.drop hdrop) ⟨.refl g, Nat.le_refl _, fun _ _ _ => rfl, fun id' x' c' h1 h2 _ => ⟨id', x', c', hdrop _ _ h1, h2, rfl⟩, fun _ _ => rfl, Nat.le_refl _⟩ h (by omega)
  · cases h
end Go.Eb

/-
The closed evaluator: copy, clear, make; literals.
-/
set_option linter.unusedVariables false
set_option linter.unusedSimpArgs false
namespace Go.Eb
open Go.Ev (szT byT aggO offT fszT TK kindT elemK zok LK leavesT kind_slice kind_array kind_str kind_int run_sizeOf szT_info addr_add At zok_is)
variable {A : Type} {P : Program} {w0 : World} {g : Env} {F : Fr} {M : Mm} {n m : Nat} {a : Act} {w : World} {K : V → Mm → Nat → Option A} {r : A}

theorem flat_rep_get {α : Type} (zs : List α) : ∀ (k j : Nat), j < k * zs.length → (List.replicate k zs).flatten[j]? = zs[j % zs.length]?
  | 0, j, h => by simp at h
  | k + 1, j, h => by
    rw [List.replicate_succ, List.flatten_cons]
    by_cases hj : j < zs.length
    · rw [List.getElem?_append_left hj, Nat.mod_eq_of_lt hj]
    · rw [List.getElem?_append_right (by omega), flat_rep_get zs k (j - zs.length) (by rw [Nat.add_mul] at h; omega), ← Nat.mod_eq_sub_mod (by omega)]
theorem flat_rep_len {α : Type} (zs : List α) (k : Nat) : (List.replicate k zs).flatten.length = k * zs.length := by simp
/-- A zero value many times over. -/
theorem zeros_rep {zs : List V} {z : Value} (hr : RepL g zs z.cells.toList) (k : Nat) (hz : 0 < zs.length) : RepL g (List.replicate k zs).flatten ((Array.range (k * z.cells.size)).map (z.cells[· % z.cells.size]!)).toList := by
  have hl := hr.length
  have hl' : zs.length = z.cells.size := by rw [hl]; exact Array.length_toList
  refine RepL.of_get (by simp [hl']) fun i v hi => ?_
  have hik : i < k * zs.length := by rw [← flat_rep_len]; exact (List.getElem?_eq_some_iff.1 hi).1
  rw [flat_rep_get zs k i hik] at hi
  obtain ⟨cv, hcv, h⟩ := hr.get hi
  refine ⟨cv, ?_, h⟩
  have hm : i % z.cells.size < z.cells.size := Nat.mod_lt _ (by omega)
  rw [hl', Array.getElem?_toList] at hcv
  rw [hl'] at hik
  have : z.cells[i % z.cells.size]! = cv := by rw [getElem!_def, hcv]
  simp [hik, this]
theorem zeros_ones {zs : List V} (h1 : ∀ v ∈ zs, c1 v = true) (k : Nat) : ∀ v ∈ (List.replicate k zs).flatten, c1 v = true := fun v hv => by
  obtain ⟨l, hl, hv⟩ := List.mem_flatten.1 hv
  rw [(List.mem_replicate.1 hl).2] at hv
  exact h1 v hv

theorem copyB_did (hM : RM w0 g M n w) {t u ty e : TypeId} {x y : V} {cx cy : Value} (hk : elemK (kindT P t) = some e) (hx : Rep g x cx) (hy : Rep g y cy) (h : copyB P M n e x y K = some r) :
    Did w0 g M w K r ((Builtin.copy_ #[t, u] ty #[cx, cy]).run P w) := by
  have ht : P.underlying t = some (.slice e) := by
    unfold elemK at hk
    split at hk
    · rename_i e' h'; injection hk with hk; subst hk; exact kind_slice h'
    · cases hk
  unfold copyB at h
  split at h
  · rename_i id off z len lim
    replace h := bb_some h; obtain ⟨hz, h⟩ := h
    simp only [Bool.and_eq_true, Nat.beq_eq, Nat.blt_eq] at hz
    obtain ⟨rfl, hpos⟩ := hz
    replace h := srcK_some (P := P) hM hy h; obtain ⟨q, vs, cvs, h, hs⟩ := h
    replace h := cellsAt_some h; obtain ⟨k, ex, c, hid, h⟩ := h
    replace h := bb_some h; obtain ⟨hb, h⟩ := h
    have hb := Nat.le_of_ble_eq_true hb
    replace h := writeK_some h; obtain ⟨c', hc', h⟩ := h
    rw [T.setK_set, kN_eq] at h
    obtain ⟨i, hi⟩ := szT_info hpos
    have his : i.size = szT P e := by simp [szT, hi]
    have hlen := hs.rep.length
    have hq := hs.n
    have hmin : Nat.min q len ≤ q := Nat.min_le_left _ _
    have hmin' : Nat.min q len ≤ len := Nat.min_le_right _ _
    have hm1 : Nat.min q len * szT P e ≤ q * szT P e := Nat.mul_le_mul_right _ hmin
    have hm2 : Nat.min q len * szT P e ≤ len * szT P e := Nat.mul_le_mul_right _ hmin'
    have htk : (vs.take (Nat.min q len * szT P e)).length = Nat.min q len * szT P e := by rw [List.length_take]; omega
    cases hx with | @sl _ _ _ _ cap _ x p hg he hle hp hcp =>
      obtain ⟨h2, h3, cells, ty', fr, h4, h5, h6, h7⟩ := write_ok hM hid hg (hs.rep.take (Nat.min q len * szT P e)) (fun v hv => hs.one v (List.mem_of_mem_take hv)) (by omega) hc'
      have hfc := hs.some w (Nat.min q len) rfl hmin
      have hp' : 0 < len → p = ⟨x.blk, x.base + off, none⟩ := fun h0 => hp (by omega)
      by_cases h0 : Nat.min q len = 0
      · have hrun : (Builtin.copy_ #[t, u] ty #[.slice (some p) len cap, cy]).run P w = .ok (.int .i64 ((Nat.min q len : Nat) : Int)) w := by
          rw [h0] at hfc ⊢
          simp only [Nat.zero_mul, List.take_zero] at hfc
          simp [Builtin.copy_, run_underlying ht, run_sizeOf hi, his, hs.len, h0, hfc, storeCells, goInt]
        rw [h0] at h2 h3
        simp only [Nat.zero_mul, List.take_zero, World.setCells] at h2 h3
        exact ⟨_, _, _, _, _, _, h, hrun, .int _ _, h2, h3⟩
      · have hp'' := hp' (by omega)
        subst hp''
        have hst := run_storeCells_cells (P := P) x.blk (x.base + off) (cvs.take (Nat.min q len * szT P e)) 0 w (fun j hj => by
            rw [Ev.cell_at]; unfold Ev.cellAt; rw [h4]
            show (cells[x.base + off + 0 + j]?).isSome = true
            simp; omega) (fun j hj => by
            unfold World.frozen?
            rw [h4]
            have := h5 (x.base + off + 0 + j) (by omega)
            simp only [Bool.and_eq_false_iff, decide_eq_false_iff_not]
            omega) (fun u hu => hs.rep.ones hs.one u (List.mem_of_mem_take hu))
        have hrun : (Builtin.copy_ #[t, u] ty #[.slice (some ⟨x.blk, x.base + off, none⟩) len cap, cy]).run P w = .ok (.int .i64 ((Nat.min q len : Nat) : Int)) (w.setCells x.blk (x.base + off) (cvs.take (Nat.min q len * szT P e))) := by
          simp only [Nat.add_zero] at hst
          simp [Builtin.copy_, run_underlying ht, run_sizeOf hi, his, hs.len, hfc, hst, goInt]
        exact ⟨_, _, _, _, _, _, h, hrun, .int _ _, h2, h3⟩
  · cases h

theorem clearB_did (hM : RM w0 g M n w) {t ty : TypeId} {x : V} {cx : Value} (hx : Rep g x cx) (h : clearB P M n t x K = some r) : Did w0 g M w K r ((Builtin.clear_ #[t] ty #[cx]).run P w) := by
  unfold clearB at h
  split at h
  · rename_i e hk
    cases hx
    exact (show (Builtin.clear_ #[t] ty #[.slice none 0 0]).run P w = .ok (.tuple #[]) w by simp [Builtin.clear_, run_underlying (kind_slice hk)]) ▸ (did_ok hM h (.tup .nil)).did
  · rename_i e id off z len lim hk
    have hu := kind_slice hk
    cases hx with | @sl _ _ _ _ cap _ x p hg he hle hp hcp =>
      cases hl0 : Nat.beq len 0 with
      | true =>
        rw [hl0] at h
        obtain rfl : len = 0 := by rwa [Nat.beq_eq] at hl0
        exact (show (Builtin.clear_ #[t] ty #[.slice (some p) 0 cap]).run P w = .ok (.tuple #[]) w by simp [Builtin.clear_, run_underlying hu]) ▸ (did_ok hM h (.tup .nil)).did
      | false =>
        rw [hl0] at h
        replace h := ob_some h; obtain ⟨zv, hzv, h⟩ := h
        replace h := ob_some h; obtain ⟨zs, hzs, h⟩ := h
        replace h := bb_some h; obtain ⟨hz, h⟩ := h
        simp only [Bool.and_eq_true, Nat.beq_eq, Nat.blt_eq] at hz
        obtain ⟨rfl, hpos⟩ := hz
        replace h := cellsAt_some h; obtain ⟨k, ex, c, hid, h⟩ := h
        replace h := bb_some h; obtain ⟨hb, h⟩ := h
        have hb := Nat.le_of_ble_eq_true hb
        replace h := writeK_some h; obtain ⟨c', hc', h⟩ := h
        rw [T.setK_set] at h
        obtain ⟨i, zc, hi, hiz, hrz⟩ := zeroV_rep (P := P) (g := g) hzv
        obtain ⟨hr, h1⟩ := cellsO_rep hzs hrz
        have hrl := zeros_rep hr len hpos
        have hzl : zs.length = zc.cells.size := by rw [hr.length]; exact Array.length_toList
        obtain ⟨h2, h3, cells, ty', fr, h4, h5, h6, h7⟩ := write_ok hM hid hg hrl (zeros_ones h1 len) (by rw [flat_rep_len]; exact hb) hc'
        rw [flat_rep_len] at h6
        have hlen' : 0 < len := Nat.pos_of_ne_zero (fun e => by subst e; cases hl0)
        have hp' := hp (by omega)
        subst hp'
        have hst := run_storeCells_cells (P := P) x.blk (x.base + off) ((Array.range (len * zc.cells.size)).map (zc.cells[· % zc.cells.size]!)).toList 0 w (fun j hj => by
            rw [Ev.cell_at]; unfold Ev.cellAt; rw [h4]
            rw [h7, flat_rep_len] at hj
            show (cells[x.base + off + 0 + j]?).isSome = true
            simp; omega) (fun j hj => by
            unfold World.frozen?
            rw [h4]
            rw [h7, flat_rep_len] at hj
            have := h5 (x.base + off + 0 + j) (by omega)
            simp only [Bool.and_eq_false_iff, decide_eq_false_iff_not]
            omega) (hrl.ones (zeros_ones h1 len))
        have hrun : (Builtin.clear_ #[t] ty #[.slice (some ⟨x.blk, x.base + off, none⟩) len cap]).run P w = .ok (.tuple #[]) (w.setCells x.blk (x.base + off) ((Array.range (len * zc.cells.size)).map (zc.cells[· % zc.cells.size]!)).toList) := by
          simp only [Nat.add_zero] at hst
          obtain ⟨len', rfl⟩ : ∃ l, len = l + 1 := ⟨len - 1, by omega⟩
          simp only [Builtin.clear_, Sem.run_bind, run_underlying hu, Result.andThen_ok, List.getElem?_toArray, List.getElem?_cons_zero, zeroValue, typeInfo, run_program, hi, Sem.run_pure, hiz, Builtin.zeroCells, hst]
        exact ⟨_, _, _, _, _, _, h, hrun, .tup .nil, h2, h3⟩
  · cases h
end Go.Eb

/-
The closed evaluator: make; literals; conversions.
-/
set_option linter.unusedVariables false
set_option linter.unusedSimpArgs false
namespace Go.Eb
open Go.Ev (szT byT aggO offT fszT TK kindT elemK zok LK leavesT kind_slice kind_array kind_str kind_int run_sizeOf szT_info addr_add At zok_is)
variable {A : Type} {P : Program} {w0 : World} {g : Env} {F : Fr} {M : Mm} {n m : Nat} {a : Act} {w : World} {K : V → Mm → Nat → Option A} {r : A}

theorem elem_und {t e : TypeId} (hk : elemK (kindT P t) = some e) : P.underlying t = some (.slice e) := by
  unfold elemK at hk
  split at hk
  · rename_i e' h'; injection hk with hk; subst hk; exact kind_slice h'
  · cases hk

theorem makeSliceB_did (hM : RM w0 g M n w) {t e : TypeId} {l c : V} {cl cc : Value} (hk : elemK (kindT P t) = some e) (hl : Rep g l cl) (hc : Rep g c cc) (h : makeSliceB P M n e l c K = some r) : Did w0 g M w K r ((Instr.makeSlice t cl cc).run P w) := by
  have ht := elem_und hk
  unfold makeSliceB at h
  split at h
  · rename_i kl l kc c
    replace h := bb_some h; obtain ⟨hb, h⟩ := h
    simp only [Bool.and_eq_true] at hb
    obtain ⟨⟨⟨hzk, h1⟩, h2⟩, h3⟩ := hb
    have h1 := Nat.le_of_ble_eq_true h1
    have h2 := Nat.le_of_ble_eq_true h2
    have h3 := Nat.le_of_ble_eq_true h3
    replace h := ob_some h; obtain ⟨zv, hzv, h⟩ := h
    replace h := ob_some h; obtain ⟨zs, hzs, h⟩ := h
    replace h := newCells_some h; obtain ⟨cc', hcc, h⟩ := h
    obtain ⟨i, z, hi, hz, hzsz, hipos, hisz, hiby⟩ := zok_is hzk
    obtain ⟨i', z', hi', hz', hrz⟩ := zeroV_rep (P := P) (g := g) hzv
    obtain rfl : i = i' := by rw [hi] at hi'; injection hi'
    obtain rfl : z = z' := by rw [hz] at hz'; injection hz'
    obtain ⟨hr, h1c⟩ := cellsO_rep hzs hrz
    have hzl : zs.length = z.cells.size := by rw [hr.length]; exact Array.length_toList
    cases hl; cases hc
    have hrun := run_make (P := P) w t e i z ht hi hz kl kc (Int.ofNat l) (Int.ofNat c) (Int.natCast_nonneg l) (Int.ofNat_le.2 h1) (by
      have : ((c * i.bytes : Nat) : Int) ≤ 281474976710656 := by rw [hiby]; omega
      rw [Nat.mul_comm] at this
      simpa using this) (by show (c : Int) ≤ _; omega)
    rw [hrun]
    simp only [natOf]
    have hzr := zeros_rep hr c (by omega)
    rw [hzsz] at hzr
    obtain ⟨g2, g3⟩ := cells_alloc (w1 := w) (ex := true) (vs := (List.replicate c zs).flatten) (c := cc') (cells := madeCells z.cells (c * i.size)) (ty := e) hM rfl rfl rfl rfl hzr (zeros_ones h1c c) hcc
      (fun j u hj => by rw [Array.getElem?_toList] at hj; unfold madeCells; rw [hzsz]; exact hj) (by rw [size_madeCells, flat_rep_len, hzl, hzsz]; exact Nat.le_refl _) (fun _ => by rw [size_madeCells, flat_rep_len, hzl, hzsz])
    refine ⟨_, _, _, _, _, _, h, rfl, ?_, g2, g3⟩
    exact .sl (x := ⟨w.heap.size, 0, _⟩) updG_new (by omega) h1 (fun _ => rfl) (by show 0 + 0 + c * szT P e = _; dsimp only; rw [size_madeCells, hisz]; omega)
  · cases h

/-! ### Literals -/
/-- A trie of cells and the cells. -/
def Cells (g : Env) (c : T V) (cells : List Value) : Prop := ∀ j u, c.get j = some u → c1 u = true ∧ ∃ cv, cells[j]? = some cv ∧ Rep g u cv
theorem fillK_some {place : Nat → Option (Nat × Nat)} {place' : Nat → Option (Nat × Nat)} (hpl : ∀ f q, place f = some q → place' f = some q) : ∀ {ps : List (Nat × Operand)} {q : Nat} {c : T V} {K : T V → Option A} {cells : Array Value}, EvR g F a (ps.map (·.2)) →
    fillK F place q c ps K = some r → Cells g c cells.toList → cells.size = q →
    ∃ c' cells', K c' = some r ∧ Instr.fill place' cells (ps.map fun p => (p.1, a.eval p.2)) = some cells' ∧ Cells g c' cells'.toList ∧ cells'.size = q
  | [], q, c, K, cells, hF, h, hc, hq => ⟨c, cells, h, rfl, hc, hq⟩
  | p :: ps, q, c, K, cells, hF, h, hc, hq => by
    have h : ob (opnd F p.2) (fun v => ob (cellsO v) fun vs => ob (place p.1) fun q' => bb (Nat.beq vs.length q'.2 && Nat.ble (q'.1 + q'.2) q) (writeK c q'.1 vs fun c => fillK F place q c ps K)) = some r := h
    replace h := ob_some h; obtain ⟨v, hv, h⟩ := h
    replace h := ob_some h; obtain ⟨vs, hvs, h⟩ := h
    replace h := ob_some h; obtain ⟨⟨off, size⟩, hpl', h⟩ := h
    replace h := bb_some h; obtain ⟨hb, h⟩ := h
    simp only [Bool.and_eq_true, Nat.beq_eq] at hb
    obtain ⟨hb1, hb2⟩ := hb
    have hb2 := Nat.le_of_ble_eq_true hb2
    dsimp only at hb1 hb2 h
    replace h := writeK_some h; obtain ⟨c', hc', h⟩ := h
    obtain ⟨hr, h1⟩ := cellsO_rep hvs (hF p.2 (by simp) _ hv)
    have hlen : vs.length = (a.eval p.2).cells.size := by rw [hr.length]; exact Array.length_toList
    have hfo := Ev.fill_one (rest := ps.map fun p => (p.1, a.eval p.2)) (cells := cells) (v := a.eval p.2) (hpl _ _ hpl') (by omega) (by omega)
    have hpre : (cells.toList.take off).length = off := by rw [List.length_take, Array.length_toList]; omega
    have hcl : ((a.eval p.2).cells.toList).length = size := by rw [Array.length_toList]; omega
    obtain ⟨c2, cells2, h2, h3, h4, h5⟩ := fillK_some hpl (cells := (cells.toList.take off ++ ((a.eval p.2).cells.toList ++ cells.toList.drop (off + size))).toArray) (hF.sub fun y hy => by rw [List.map_cons]; exact List.mem_cons_of_mem _ hy) h (fun j u hj => by
      rcases hc' j u hj with ⟨g1, g2⟩ | ⟨g1, g2⟩
      · obtain ⟨cv, hcv, hr'⟩ := hr.get g2
        have hjl : j - off < vs.length := (List.getElem?_eq_some_iff.1 g2).1
        refine ⟨h1 _ (List.mem_of_getElem? g2), cv, ?_, hr'⟩
        simp only [List.toList_toArray]
        rw [List.getElem?_append_right (by omega), hpre, List.getElem?_append_left (by omega)]
        exact hcv
      · obtain ⟨g3, cv, g4, g5⟩ := hc j u g2
        refine ⟨g3, cv, ?_, g5⟩
        simp only [List.toList_toArray]
        rcases g1 with g1 | g1
        · rw [List.getElem?_append_left (by omega), List.getElem?_take, if_pos g1]; exact g4
        · rw [List.getElem?_append_right (by omega), hpre, List.getElem?_append_right (by omega), List.getElem?_drop, show off + size + (j - off - ((a.eval p.2).cells.toList).length) = j by omega]; exact g4) (by
      have hd : (cells.toList.drop (off + size)).length = q - (off + size) := by rw [List.length_drop, Array.length_toList]; omega
      simp only [List.size_toArray, List.length_append, hpre, hcl, hd]; omega)
    exact ⟨c2, cells2, h2, by rw [List.map_cons, hfo]; exact h3, h4, h5⟩

theorem buildB_did (hM : RM w0 g M n w) {t : TypeId} {ps : List (Nat × Operand)} (hF : EvR g F a (ps.map (·.2))) (h : buildB P F M n t ps K = some r) : DidS w0 g M n w K r ((Instr.build t (ps.map fun p => (p.1, a.eval p.2)).toArray).run P w) := by
  unfold buildB at h
  replace h := ob_some h; obtain ⟨z, hz, h⟩ := h
  split at h
  · rename_i zs
    replace h := bb_some h; obtain ⟨hfo, h⟩ := h
    replace h := writeK_some h; obtain ⟨c, hc, h⟩ := h
    obtain ⟨i, zv, hi, hzi, hrz⟩ := zeroV_rep (P := P) (g := g) hz
    unfold Ev.fieldsOk at hfo
    split at hfo
    · rename_i fds hu
      cases hrz with | @agg _ zvs hrz h1 =>
        have hzl : zs.length = zvs.size := by rw [hrz.length]; exact Array.length_toList
        have hpl : ∀ f q, placeS P t f = some q → (fds.map fun f => (f.offset, szT P f.type))[f]? = some q := fun f q hq => by
          unfold placeS at hq
          split at hq
          · rename_i o ho
            injection hq with hq; subst hq
            obtain ⟨fs', x, hu', hx, hxo, hfs, hpos⟩ := Ev.offT_is ho
            obtain rfl : fs' = fds := by rw [hu] at hu'; injection hu' with h; injection h with h; exact h.symm
            simp [hx, hxo, hfs]
          · cases hq
        obtain ⟨c', cells', h2, h3, h4, h5⟩ := fillK_some hpl (cells := zvs) hF h (fun j u hj => by
          rcases hc j u hj with ⟨_, g2⟩ | ⟨_, g2⟩
          · rw [Nat.sub_zero] at g2
            obtain ⟨cv, hcv, hr'⟩ := hrz.get g2
            exact ⟨h1 _ (List.mem_of_getElem? g2), cv, hcv, hr'⟩
          · simp [T.get_e] at g2) hzl.symm
        obtain ⟨vs, hl, hg, h⟩ := readK_some h2
        have hplr := Ev.places_run (P := P) w fds.toList fun x hx => by
          have := List.all_eq_true.1 hfo x hx
          exact Option.isSome_iff_exists.1 this
        have hm : (fds.mapM (fun f => do pure (f.offset, ← sizeOf f.type)) : Sem (Array (Nat × Nat))).run P w = .ok (fds.map fun f => (f.offset, szT P f.type)) w := by
          rw [Array.mapM_eq_mapM_toList, Sem.run_map, hplr]
          simp only [Result.andThen_ok]
          congr 1
          apply Array.ext'
          simp
        have hrun : (Instr.build t (ps.map fun p => (p.1, a.eval p.2)).toArray).run P w = .ok (.agg cells') w := by
          simp only [Instr.build, Sem.run_bind, zeroValue, typeInfo, run_program, hi, Result.andThen_ok, Sem.run_pure, hzi, run_underlying hu, hm, Value.cells, List.toList_toArray, h3]
        rw [hrun]
        refine did_ok hM h (.agg (RepL.of_get (by rw [hl, ← h5]; exact Array.length_toList.symm) fun j v hv => ?_) fun v hv => ?_)
        · have := hg j v hv
          rw [Nat.zero_add] at this
          exact (h4 j v this).2
        · obtain ⟨j, hj⟩ := List.getElem?_of_mem hv
          have := hg j v hj
          rw [Nat.zero_add] at this
          exact (h4 j v this).1
    · cases hfo
  · cases h

theorem buildSliceB_did (hM : RM w0 g M n w) {t : TypeId} {len : Nat} {ps : List (Nat × Operand)} (hF : EvR g F a (ps.map (·.2))) (h : buildSliceB P F M n t len ps K = some r) :
    Did w0 g M w K r ((Instr.buildSlice t len (ps.map fun p => (p.1, a.eval p.2)).toArray).run P w) := by
  unfold buildSliceB at h
  split at h
  · rename_i e hk
    have hu := kind_slice hk
    replace h := bb_some h; obtain ⟨hb, h⟩ := h
    rw [Bool.and_eq_true] at hb
    obtain ⟨hzk, hb⟩ := hb
    have hb := Nat.le_of_ble_eq_true hb
    replace h := ob_some h; obtain ⟨zv, hzv, h⟩ := h
    replace h := ob_some h; obtain ⟨zs, hzs, h⟩ := h
    replace h := writeK_some h; obtain ⟨c, hc, h⟩ := h
    obtain ⟨i, z, hi, hz, hzsz, hipos, hisz, hiby⟩ := zok_is hzk
    obtain ⟨i', z', hi', hz', hrz⟩ := zeroV_rep (P := P) (g := g) hzv
    obtain rfl : i = i' := by rw [hi] at hi'; injection hi'
    obtain rfl : z = z' := by rw [hz] at hz'; injection hz'
    obtain ⟨hr, h1⟩ := cellsO_rep hzs hrz
    have hzl : zs.length = z.cells.size := by rw [hr.length]; exact Array.length_toList
    have hzr := zeros_rep hr len (by omega)
    have hsz : szT P e = z.cells.size := by rw [hzsz, hisz]
    obtain ⟨c', cells', h2, h3, h4, h5⟩ := fillK_some (place := placeR (szT P e)) (place' := fun i => some (i * szT P e, szT P e)) (fun f q hq => hq) (cells := (Array.range (len * z.cells.size)).map (z.cells[· % z.cells.size]!)) hF h (fun j u hj => by
      rcases hc j u hj with ⟨_, g2⟩ | ⟨_, g2⟩
      · rw [Nat.sub_zero] at g2
        obtain ⟨cv, hcv, hr'⟩ := hzr.get g2
        exact ⟨zeros_ones h1 len _ (List.mem_of_getElem? g2), cv, hcv, hr'⟩
      · simp [T.get_e] at g2) (by simp [hsz])
    rw [newB_eq] at h2
    have hnb : ¬ (len * szT P e > 2 ^ 24) := by omega
    have hrun : (Instr.buildSlice t len (ps.map fun p => (p.1, a.eval p.2)).toArray).run P w = .ok (.slice (some ⟨w.heap.size, 0, none⟩) len len) (w.alloc (.cells cells' e)) := by
      simp only [Instr.buildSlice, Sem.run_bind, run_underlying hu, Result.andThen_ok, run_sizeOf hi, hisz, if_neg hnb, Sem.run_ite]
      by_cases h0 : len * szT P e = 0
      · have hl0 : len = 0 := mul0 h0 (by omega)
        subst hl0
        simp only [Nat.zero_mul, if_true, Sem.run_pure, Result.andThen_ok] at h3 ⊢
        have : ((Array.range 0).map fun x => (#[] : Array Value)[x % (#[] : Array Value).size]!) = ((Array.range 0).map (z.cells[· % z.cells.size]!)) := by simp
        rw [this]
        simp only [List.toList_toArray, h3]
        simp [newRow]
      · simp only [h0, if_false, zeroValue, typeInfo, Sem.run_bind, run_program, Result.andThen_ok, hi, Sem.run_pure, hz]
        rw [hsz] at h3 ⊢
        simp only [List.toList_toArray, h3]
        simp [newRow]
    rw [hrun]
    have hx := hM.alloc (w1 := w) (.cells cells' e) rfl rfl rfl rfl (x := ⟨w.heap.size, 0, cells'.size⟩) (b := .cells (len * szT P e) true c') rfl ⟨cells', e, (0, 0), by simp, rfl, fun _ _ hk => absurd hk.2 (Nat.not_lt_zero _), by
        show 0 + len * szT P e ≤ cells'.size; omega, fun _ => by show 0 + len * szT P e = cells'.size; omega, fun j u hj => by
      obtain ⟨g1, cv, g2, g3⟩ := h4 j u hj
      have hjl : j < cells'.size := by have := (List.getElem?_eq_some_iff.1 g2).1; rwa [Array.length_toList] at this
      exact ⟨by omega, g1, cv, by rw [Nat.zero_add, ← Array.getElem?_toList]; exact g2, g3.mono (hM.sub _)⟩⟩
    refine ⟨_, _, _, _, _, _, h2, rfl, ?_, hx.1, hx.2⟩
    exact .sl (x := ⟨w.heap.size, 0, cells'.size⟩) updG_new (by omega) (Nat.le_refl _) (fun _ => rfl) (by show 0 + 0 + len * szT P e = cells'.size; omega)
  · cases h
end Go.Eb

/-
The closed evaluator: conversions, maps.
-/
set_option linter.unusedVariables false
set_option linter.unusedSimpArgs false
namespace Go.Eb
open Go.Ev (szT byT aggO offT fszT TK kindT elemK zok LK leavesT kind_slice kind_array kind_str kind_int run_sizeOf szT_info addr_add At zok_is lkT kind_key)
variable {A : Type} {P : Program} {w0 : World} {g : Env} {F : Fr} {M : Mm} {n m : Nat} {a : Act} {w : World} {K : V → Mm → Nat → Option A} {r : A}

theorem bytesK_some : ∀ {vs : List V} {K : List Nat → Option A} {cvs : List Value}, bytesK vs K = some r → RepL g vs cvs → ∃ l : List UInt8, K (l.map (·.toNat)) = some r ∧ cvs = l.map fun b => Value.int .u8 (b.toNat : Int)
  | [], K, cvs, h, hr => by cases hr; exact ⟨[], h, rfl⟩
  | v :: vs, K, cvs, h, hr => by
    obtain ⟨cv, cvs, rfl, h1, h2⟩ := hr.inv
    have h : ob (byteOf v) (fun c => bb (Nat.ble c 255) (bytesK vs fun l => K (c :: l))) = some r := h
    replace h := ob_some h; obtain ⟨c, hc, h⟩ := h
    replace h := bb_some h; obtain ⟨hb, h⟩ := h
    have hb := Nat.le_of_ble_eq_true hb
    obtain ⟨l, hl, rfl⟩ := bytesK_some h h2
    unfold byteOf at hc
    split at hc
    · rename_i c'
      injection hc with hc; subst hc
      cases h1
      refine ⟨UInt8.ofNat c' :: l, ?_, ?_⟩
      · have : (UInt8.ofNat c').toNat = c' := by rw [UInt8.toNat_ofNat']; omega
        simp only [List.map_cons, this]; exact hl
      · have : (UInt8.ofNat c').toNat = c' := by rw [UInt8.toNat_ofNat']; omega
        simp [this]
    · cases hc

theorem convB_did (hM : RM w0 g M n w) {src dst : TypeId} {x : V} {cx : Value} (hx : Rep g x cx) (h : convB P M n src dst x K = some r) : DidS w0 g M n w K r ((convert src dst cx).run P w) ∨ ((∃ e, kindT P dst = .slice e) ∧ Did w0 g M w K r ((convert src dst cx).run P w)) := by
  unfold convB at h
  split at h
  · rename_i k' k k'' q h1 h2
    cases hx
    rw [kI_eq] at h
    refine .inl ?_
    exact (show (convert src dst (.int k'' q)).run P w = .ok (.int k (k.wrap q)) w by simp [convert, run_underlying (kind_int h1), run_underlying (kind_int h2), Conv.intToInt]) ▸ did_ok hM h (.int _ _)
  · rename_i l h1 h2
    cases hx with | str e hs =>
      rename_i s
      refine .inl ?_
      exact (show (convert src dst (.string s)).run P w = .ok (.string s) w by simp [convert, run_underlying (kind_str h1), run_underlying (kind_str h2)]) ▸ did_ok hM h (.str e hs)
  · rename_i e l h1 h2
    cases hx with | str el hs =>
      rename_i s
      subst el
      split at h
      · rename_i h3
        replace h := newCells_some h; obtain ⟨c, hc, h⟩ := h
        rw [run_bytes_of_string w src dst e s (kind_str h1) (kind_slice h2) (kind_int h3)]
        have hcap := grownCap_ge w s.size 0 e
        have hl : ((natsOf s).map fun c => V.int .u8 (.ofNat c)).length = s.size := by rw [List.length_map, natsOf_length]
        have hsz : (bytesRow s (grownCap w s.size 0 e)).size = grownCap w s.size 0 e := by
          unfold bytesRow
          rw [Array.size_append, Array.size_map, Array.size_replicate]
          show s.size + _ = _
          omega
        have hx := hM.alloc (w1 := w.drew) (.cells (bytesRow s (grownCap w s.size 0 e)) e ((bytesRow s (grownCap w s.size 0 e)).size, (bytesRow s (grownCap w s.size 0 e)).size + 1)) rfl rfl rfl rfl (x := ⟨w.heap.size, 0, grownCap w s.size 0 e⟩)
          (b := .cells ((natsOf s).map fun c => V.int .u8 (.ofNat c)).length false c) rfl ⟨bytesRow s (grownCap w s.size 0 e), e, ((bytesRow s (grownCap w s.size 0 e)).size, (bytesRow s (grownCap w s.size 0 e)).size + 1), by simp, hsz, fun k hk hk' => Nat.not_lt.2 hk'.1 hk, by show 0 + _ ≤ grownCap w s.size 0 e; omega, by simp, fun j u hj => by
            have hj := hc j u hj
            have hjl := (List.getElem?_eq_some_iff.1 hj).1
            rw [List.getElem?_map] at hj
            obtain ⟨c', hc', rfl⟩ := Option.map_eq_some_iff.1 hj
            refine ⟨hjl, rfl, .int .u8 (Int.ofNat c'), ?_, .int _ _⟩
            obtain ⟨g1, g2, g3⟩ := natsOf_get hc'
            rw [Nat.zero_add]
            unfold bytesRow
            rw [Array.getElem?_append_left (by rw [Array.size_map]; exact g1), Array.getElem?_map]
            have : s.data[j]? = some (s.data.toList.getD j 0) := by
              rw [← Array.getElem?_toList, List.getD_eq_getElem?_getD]
              cases hd : s.data.toList[j]? with
              | some b => rfl
              | none => rw [List.getElem?_eq_none_iff, size_list] at hd; omega
            rw [this, Option.map_some, g3]
            rfl⟩
        refine .inr ⟨⟨e, h2⟩, _, _, _, _, _, _, h, rfl, ?_, hx.1, hx.2⟩
        rw [natsOf_length]
        exact .sl (x := ⟨w.heap.size, 0, grownCap w s.size 0 e⟩) updG_new (by omega) hcap (fun _ => rfl) (by show 0 + 0 + grownCap w s.size 0 e * 1 = grownCap w s.size 0 e; omega)
      · cases h
  · rename_i e h1 h2
    cases hx
    split at h
    · rename_i h3
      have : (convert src dst (.slice none 0 0)).run P w = .ok (.string .empty) w := by
        rw [run_convert_bytes_string w src dst e none 0 0 (kind_slice h1) (kind_int h3) (kind_str h2)]
        simp [Conv.bytesToString]
      rw [this]
      exact .inl (did_ok hM h (.str rfl (by simp)))
    · cases h
  · rename_i e id off z len lim h1 h2
    split at h
    · rename_i h3
      replace h := bb_some h; obtain ⟨hz, h⟩ := h
      rw [Nat.beq_eq] at hz
      subst hz
      replace h := cellsAt_some h; obtain ⟨k, ex, c, hid, h⟩ := h
      replace h := bb_some h; obtain ⟨hb, h⟩ := h
      have hb := Nat.le_of_ble_eq_true hb
      replace h := readK_some h; obtain ⟨vs, hl, hgs, h⟩ := h
      cases hx with | @sl _ _ _ _ cap _ x p hg he hle hp hc =>
        obtain ⟨y, hy, hbr⟩ := hM.rep id _ hid
        obtain rfl : x = y := by rw [hg] at hy; injection hy
        obtain ⟨cvs, g1, g2, g3, g4, g5⟩ := read_rep hbr hl hgs
        obtain ⟨l, hK, rfl⟩ := bytesK_some h g1
        rw [List.length_map] at g3
        have hrun : (convert src dst (.slice (some p) len cap)).run P w = .ok (.string ⟨l.toArray⟩) w := by
          rw [← g3]
          refine run_convert_bytes_back w src dst e p cap l (kind_slice h1) (kind_int h3) (kind_str h2) fun j hj => ?_
          have hp := hp (by omega)
          subst hp
          rw [addr_add, Ev.cell_at]
          exact g4 j _ (by simp [hj])
        rw [hrun]
        exact .inl <| did_ok hM hK (.str (by simp [natsOf]) (by show l.toArray.size ≤ _; simp; omega))
    · cases h
  · cases h

/-! ### Maps -/
theorem eqK_ev {E : Ev.Env} {lk : LK} {x y : V} {cx cy : Value} {c : Bool} (h : eqK lk x y = some c) (hx : Rep g x cx) (hy : Rep g y cy) : Ev.eqK lk (toAV cx) (toAV cy) = some c ∧ Ev.Rep E (toAV cx) cx [] ∧ Ev.Rep E (toAV cy) cy [] := by
  have h1 : eqLK [lk] [x] [y] true (fun c => some c) = some c := by
    show ob (eqK lk x y) (fun c => match c with | true => some true | false => some false) = some c
    rw [h]
    cases c <;> rfl
  obtain ⟨d, h2, h3, h4, h5⟩ := eqLK_run (E := E) h1 (.cons hx .nil) (.cons hy .nil)
  simp only [Bool.true_and, Option.some.injEq] at h3
  subst h3
  simp only [List.map_cons, List.map_nil, Ev.eqLK, Option.bind_eq_some_iff, Option.map_eq_some_iff, Option.some.injEq] at h2
  obtain ⟨b, hb, b', rfl, rfl⟩ := h2
  obtain ⟨v, rfl', hv⟩ := h4.inv1
  obtain ⟨u, rfl'', hu⟩ := h5.inv1
  simp only [List.cons.injEq, and_true] at rfl' rfl''
  subst rfl' rfl''
  exact ⟨by simpa using hb, hv, hu⟩
theorem eqK_now {lk : LK} {x y : V} {cx cy : Value} {c : Bool} (h : eqK lk x y = some c) (hx : Rep g x cx) (hy : Rep g y cy) : Instr.sameNow (lkT lk) cx cy = some c ∧ (c = true → Instr.sameBits 10000 cy cx = true) := by
  obtain ⟨h1, h2, h3⟩ := eqK_ev (E := ⟨#[], fun _ _ => False, fun _ => none⟩) h hx hy
  exact Ev.eqK_now h2 h3 h1

theorem findK_now {lk : LK} {k : V} {ck : Value} (hk : Rep g k ck) : ∀ {es : List (V × V × Nat)} {ces : List MapEntry} {K : Option V → Option A} {i : Nat}, EntL g es ces → findK lk k es K = some r →
    (K none = some r ∧ Instr.findNow (lkT lk) ck ces i = some none) ∨ ∃ v j cv, K (some v) = some r ∧ Instr.findNow (lkT lk) ck ces i = some (some (j, cv)) ∧ Rep g v cv
  | [], ces, K, i, he, h => by cases he; exact .inl ⟨h, rfl⟩
  | e :: es, ces, K, i, he, h => by
    cases he with | @cons k' v' born ce _ ces h1 h2 h3 h4 =>
      have h : ob (eqK lk k k') (fun c => match c with
        | true => K (some v')
        | false => findK lk k es K) = some r := h
      replace h := ob_some h; obtain ⟨c, hc, h⟩ := h
      obtain ⟨hn, _⟩ := eqK_now hc hk h1
      cases c with
      | true => exact .inr ⟨v', i, ce.val, h, by simp [Instr.findNow, hn], h2⟩
      | false =>
        have := findK_now hk (i := i + 1) h4 h
        simpa [Instr.findNow, hn] using this

theorem mapT_some {t : TypeId} {q : LK × TypeId} (h : mapT P t = some q) : ∃ k, P.underlying t = some (.map k q.2) ∧ P.underlying k = some (lkT q.1) := by
  unfold mapT at h
  split at h
  · rename_i k e hk
    split at h
    · rename_i lk hlk
      injection h with h; subst h
      exact ⟨k, kind_map hk, kind_key hlk⟩
    · cases h
  · cases h

theorem lookupB_did (hM : RM w0 g M n w) {t : TypeId} {ok : Bool} {mv k : V} {cm ck : Value} (hm : Rep g mv cm) (hk : Rep g k ck) (h : lookupB P M n t mv k ok K = some r) : DidS w0 g M n w K r ((Instr.lookup t cm ck ok).run P w) := by
  unfold lookupB at h
  replace h := ob_some h; obtain ⟨q, hq, h⟩ := h
  replace h := ob_some h; obtain ⟨zv, hzv, h⟩ := h
  obtain ⟨kt, hu, hku⟩ := mapT_some hq
  obtain ⟨iz, z, hiz, hz, hrz⟩ := zeroV_rep (P := P) (g := g) hzv
  have hzr : (zeroValue q.2).run P w = .ok z w := by simp [zeroValue, typeInfo, hiz, hz]
  have out : ∀ {v : Option V} {u : V} {cu : Value}, lookOut ok zv v M n K = some r → v.getD zv = u → Rep g u cu → (Instr.lookup t cm ck ok).run P w = .ok (if ok = true then .tuple #[cu, .bool v.isSome] else cu) w → DidS w0 g M n w K r ((Instr.lookup t cm ck ok).run P w) := by
    intro v u cu h hv hr hrun
    rw [hrun]
    unfold lookOut at h
    split at h <;> (subst hv)
    · exact did_ok hM h (.tup (.cons hr (.cons (.bool _) .nil)))
    · exact did_ok hM h (.tup (.cons hr (.cons (.bool _) .nil)))
    · exact did_ok hM h hr
    · exact did_ok hM h hr
  split at h
  · cases hm
    refine out h rfl hrz ?_
    unfold Instr.lookup
    simp only [Sem.run_bind, run_underlying hu, Result.andThen_ok, Sem.run_pure, Ev.run_check hku, Ev.run_find (es := []) hku (r := none) rfl]
    cases ok <;> simp [hzr, Sem.run_bind]
  · replace h := mapAt_some h; obtain ⟨es, c, hid, h⟩ := h
    cases hm with | @mp _ x hg =>
      obtain ⟨y, hy, ces, h1, h2⟩ := hM.rep _ _ hid
      obtain rfl : x = y := by rw [hg] at hy; injection hy
      rcases findK_now hk (i := 0) h2 h with ⟨h, hn⟩ | ⟨v, j, cv, h, hn, hr⟩
      · refine out h rfl hrz ?_
        unfold Instr.lookup
        simp only [Sem.run_bind, run_underlying hu, Result.andThen_ok, MapKept.run_getObj_map h1, Sem.run_pure, Ev.run_check hku, Ev.run_find hku hn]
        cases ok <;> simp [hzr, Sem.run_bind]
      · refine out h rfl hr ?_
        unfold Instr.lookup
        simp only [Sem.run_bind, run_underlying hu, Result.andThen_ok, MapKept.run_getObj_map h1, Sem.run_pure, Ev.run_check hku, Ev.run_find hku hn]
        cases ok <;> simp [Sem.run_bind]
  · cases h

theorem putE_now {lk : LK} {k v : V} {ck cv : Value} (hk : Rep g k ck) (hv : Rep g v cv) {clock : Nat} : ∀ {es : List (V × V × Nat)} {ces : List MapEntry} {K : List (V × V × Nat) → Nat → Option A} {i : Nat}, EntL g es ces → putE lk k v clock es K = some r →
    (∃ es', K es' (clock + 1) = some r ∧ Instr.findNow (lkT lk) ck ces i = some none ∧ EntL g es' (ces ++ [{ key := ck, val := cv, born := clock }])) ∨
    (∃ es' j u, K es' clock = some r ∧ Instr.findNow (lkT lk) ck ces i = some (some (i + j, u)) ∧ (∃ e, ces[j]? = some e ∧ Instr.sameBits 10000 e.key ck = true) ∧ EntL g es' (ces.modify j fun e => { e with key := ck, val := cv }))
  | [], ces, K, i, he, h => by
    cases he
    exact .inl ⟨_, h, rfl, .cons hk hv rfl .nil⟩
  | e :: es, ces, K, i, he, h => by
    cases he with | @cons k' v' born ce _ ces h1 h2 h3 h4 =>
      have h : ob (eqK lk k k') (fun c => match c with
        | true => K ((k, v, born) :: es) clock
        | false => putE lk k v clock es fun es' c => K ((k', v', born) :: es') c) = some r := h
      replace h := ob_some h; obtain ⟨c, hc, h⟩ := h
      obtain ⟨hn, hsame⟩ := eqK_now hc hk h1
      cases c with
      | true => exact .inr ⟨_, 0, ce.val, h, by simp [Instr.findNow, hn], ⟨ce, rfl, hsame rfl⟩, .cons hk hv h3 h4⟩
      | false =>
        rcases putE_now hk hv (i := i + 1) h4 h with ⟨es', g1, g2, g3⟩ | ⟨es', j, u, g1, g2, g3, g4⟩
        · exact .inl ⟨_, g1, by simpa [Instr.findNow, hn] using g2, .cons h1 h2 h3 g3⟩
        · exact .inr ⟨_, j + 1, u, g1, by simp [Instr.findNow, hn, g2]; omega, by simpa using g3, .cons h1 h2 h3 g4⟩

/-- A map's block written. -/
theorem map_write (hM : RM w0 g M n w) {id : Nat} {es es' : List (V × V × Nat)} {c clock : Nat} {x : Lc} {ces : Array MapEntry} (hid : M.get id = some (.map es c)) (hg : g id = some x) (hr : EntL g es' ces.toList) :
    RM w0 g (M.set id (some (.map es' clock))) n { w with heap := w.heap.setIfInBounds x.blk (.map ces clock) } ∧ Mv g M w g (M.set id (some (.map es' clock))) { w with heap := w.heap.setIfInBounds x.blk (.map ces clock) } := by
  have hlt := (hM.lt id x hg).2.2
  refine hM.write (w' := { w with heap := w.heap.setIfInBounds x.blk (.map ces clock) }) (b' := .map es' clock) hid hg (fun k hk => ?_) (by simp) ⟨ces, ?_, hr⟩ rfl rfl rfl
  · show (w.heap.setIfInBounds x.blk _)[k]? = _
    rw [Array.getElem?_setIfInBounds, if_neg (fun e => hk e.symm)]
  · show (w.heap.setIfInBounds x.blk _)[x.blk]? = _
    rw [Array.getElem?_setIfInBounds, if_pos rfl, if_pos hlt]

theorem mapUpdateB_did (hM : RM w0 g M n w) {t : TypeId} {mv k v : V} {cm ck cv : Value} (hm : Rep g mv cm) (hk : Rep g k ck) (hv : Rep g v cv) (h : mapUpdateB P M n t mv k v K = some r) :
    ∃ M' n' w', K (.tup []) M' n' = some r ∧ (Instr.mapUpdate t cm ck cv).run P w = .ok () w' ∧ RM w0 g M' n' w' ∧ Mv g M w g M' w' := by
  unfold mapUpdateB at h
  split at h
  · replace h := ob_some h; obtain ⟨q, hq, h⟩ := h
    replace h := mapAt_some h; obtain ⟨es, c, hid, h⟩ := h
    obtain ⟨kt, hu, hku⟩ := mapT_some hq
    cases hm with | @mp _ x hg =>
      obtain ⟨y, hy, ces, h1, h2⟩ := hM.rep _ _ hid
      obtain rfl : x = y := by rw [hg] at hy; injection hy
      rcases putE_now hk hv (i := 0) h2 h with ⟨es', h, hn, h3⟩ | ⟨es', j, u, h, hn, ⟨e, he, hsb⟩, h3⟩
      · rw [T.setK_set] at h
        obtain ⟨g1, g2⟩ := map_write (clock := c + 1) (ces := ces.push { key := ck, val := cv, born := c }) hM hid hg (by simpa using h3)
        refine ⟨_, n, _, h, ?_, g1, g2⟩
        unfold Instr.mapUpdate
        simp only [Sem.run_bind, run_underlying hu, Result.andThen_ok, MapKept.run_getObj_map h1, Ev.run_check hku, Ev.run_find hku hn, MapKept.run_setObj_map _ h1]
      · rw [T.setK_set] at h
        rw [Nat.zero_add] at hn
        have hea : ces[j]? = some e := by rw [← Array.getElem?_toList]; exact he
        obtain ⟨g1, g2⟩ := map_write (clock := c) (ces := ces.modify j fun e => { e with key := ck, val := cv }) hM hid hg (by simpa using h3)
        refine ⟨_, n, _, h, ?_, g1, g2⟩
        unfold Instr.mapUpdate
        simp only [Sem.run_bind, run_underlying hu, Result.andThen_ok, MapKept.run_getObj_map h1, Ev.run_check hku, Ev.run_find hku hn, Instr.keyThatStays, hea, Option.map_some, Option.getD_some, hsb, if_true, Sem.run_pure, MapKept.run_setObj_map _ h1]
  · cases h

theorem delE_now {lk : LK} {k : V} {ck : Value} (hk : Rep g k ck) : ∀ {es : List (V × V × Nat)} {ces : List MapEntry} {K : List (V × V × Nat) → Option A} {i : Nat}, EntL g es ces → delE lk k es K = some r →
    (∃ es', K es' = some r ∧ Instr.findNow (lkT lk) ck ces i = some none ∧ EntL g es' ces) ∨ (∃ es' j u, K es' = some r ∧ Instr.findNow (lkT lk) ck ces i = some (some (i + j, u)) ∧ EntL g es' (ces.eraseIdx j))
  | [], ces, K, i, he, h => by cases he; exact .inl ⟨_, h, rfl, .nil⟩
  | e :: es, ces, K, i, he, h => by
    cases he with | @cons k' v' born ce _ ces h1 h2 h3 h4 =>
      have h : ob (eqK lk k k') (fun c => match c with
        | true => K es
        | false => delE lk k es fun es' => K ((k', v', born) :: es')) = some r := h
      replace h := ob_some h; obtain ⟨c, hc, h⟩ := h
      obtain ⟨hn, _⟩ := eqK_now hc hk h1
      cases c with
      | true => exact .inr ⟨_, 0, ce.val, h, by simp [Instr.findNow, hn], h4⟩
      | false =>
        rcases delE_now hk (i := i + 1) h4 h with ⟨es', g1, g2, g3⟩ | ⟨es', j, u, g1, g2, g3⟩
        · exact .inl ⟨_, g1, by simpa [Instr.findNow, hn] using g2, .cons h1 h2 h3 g3⟩
        · exact .inr ⟨_, j + 1, u, g1, by simp [Instr.findNow, hn, g2]; omega, .cons h1 h2 h3 g3⟩

theorem deleteB_did (hM : RM w0 g M n w) {t u ty : TypeId} {mv k : V} {cm ck : Value} (hm : Rep g mv cm) (hk : Rep g k ck) (h : deleteB P M n t mv k K = some r) : Did w0 g M w K r ((Builtin.delete_ #[t, u] ty #[cm, ck]).run P w) := by
  unfold deleteB at h
  split at h
  · replace h := ob_some h; obtain ⟨q, hq, h⟩ := h
    obtain ⟨kt, hu, hku⟩ := mapT_some hq
    cases hm
    exact (show (Builtin.delete_ #[t, u] ty #[.map none, ck]).run P w = .ok (.tuple #[]) w by simp [Builtin.delete_, run_underlying hu, Ev.run_check hku]) ▸ (did_ok hM h (.tup .nil)).did
  · replace h := ob_some h; obtain ⟨q, hq, h⟩ := h
    replace h := mapAt_some h; obtain ⟨es, c, hid, h⟩ := h
    obtain ⟨kt, hu, hku⟩ := mapT_some hq
    cases hm with | @mp _ x hg =>
      obtain ⟨y, hy, ces, h1, h2⟩ := hM.rep _ _ hid
      obtain rfl : x = y := by rw [hg] at hy; injection hy
      rcases delE_now hk (i := 0) h2 h with ⟨es', h, hn, h3⟩ | ⟨es', j, v, h, hn, h3⟩
      · rw [T.setK_set] at h
        obtain ⟨g1, g2⟩ := map_write (clock := c) (ces := ces) hM hid hg h3
        refine ⟨_, _, n, g, _, _, h, ?_, .tup .nil, g1, g2⟩
        simp only [Builtin.delete_, Sem.run_bind, run_underlying hu, Result.andThen_ok, List.getElem?_toArray, List.getElem?_cons_zero, List.getElem?_cons_succ, MapKept.run_getObj_map h1, Ev.run_check hku, Ev.run_find hku hn, MapKept.run_setObj_map _ h1, Sem.run_pure]
      · rw [T.setK_set] at h
        rw [Nat.zero_add] at hn
        obtain ⟨g1, g2⟩ := map_write (clock := c) (ces := ces.eraseIdxIfInBounds j) hM hid hg (by
          rw [Array.toList_eraseIdxIfInBounds]; exact h3)
        refine ⟨_, _, n, g, _, _, h, ?_, .tup .nil, g1, g2⟩
        simp only [Builtin.delete_, Sem.run_bind, run_underlying hu, Result.andThen_ok, List.getElem?_toArray, List.getElem?_cons_zero, List.getElem?_cons_succ, MapKept.run_getObj_map h1, Ev.run_check hku, Ev.run_find hku hn, MapKept.run_setObj_map _ h1, Sem.run_pure]
  · cases h

theorem makeMap_did (hM : RM w0 g M n w) {s : Sem Value} (hs : s.run P w = .ok (.map (some w.heap.size)) (w.alloc (.map #[] 0))) (h : newB M n (.map [] 0) (fun M' n' => K (.mp n) M' n') = some r) : Did w0 g M w K r (s.run P w) := by
  rw [newB_eq] at h
  obtain ⟨g1, g2⟩ := hM.alloc (w1 := w) (.map #[] 0) rfl rfl rfl rfl (x := ⟨w.heap.size, 0, 0⟩) (b := .map [] 0) rfl ⟨#[], by simp, .nil⟩
  exact ⟨_, _, _, _, _, _, h, hs, .mp (x := ⟨w.heap.size, 0, 0⟩) updG_new, g1, g2⟩
end Go.Eb

/-
The closed evaluator: interfaces, parts, capacities, texts ranged over, functions without a body.
-/
set_option linter.unusedVariables false
set_option linter.unusedSimpArgs false
namespace Go.Eb
open Go.Ev (szT byT aggO offT fszT TK kindT elemK zok LK leavesT kind_slice kind_array kind_str kind_int run_sizeOf szT_info addr_add At zok_is)
variable {A : Type} {P : Program} {w0 : World} {g : Env} {F : Fr} {M : Mm} {n m : Nat} {a : Act} {w : World} {K : V → Mm → Nat → Option A} {r : A}

theorem makeInterface_did (hM : RM w0 g M n w) {t : TypeId} {v : V} {cv : Value} (hv : Rep g v cv) (h : bb (conc P t) (K (.ifc t v) M n) = some r) : DidS w0 g M n w K r ((Instr.makeInterface t cv).run P w) := by
  replace h := bb_some h; obtain ⟨hc, h⟩ := h
  have : (Instr.makeInterface t cv).run P w = .ok (.iface t cv) w := by
    unfold conc at hc
    split at hc
    · cases hc
    · rename_i d hn hd
      unfold Instr.makeInterface
      simp only [Sem.run_bind, run_underlying hd, Result.andThen_ok]
      cases d <;> first | rfl | exact absurd rfl (hn _)
    · cases hc
  exact this ▸ did_ok hM h (.ifc hv)

theorem ifc_eq1 (d : Nat) {t : TypeId} {ms : Array (String × TypeId)} (hu : P.underlying t = some (.interface ms)) (a : TypeId) (b : Value) : (Op.equalIn (d + 1) t .nilIface (.iface a b)).run P w = .ok false w := by
  simp only [Op.equalIn, Sem.run_bind, run_underlying hu, Result.andThen_ok, Sem.run_pure]
theorem ifc_eq2 (d : Nat) {t : TypeId} {ms : Array (String × TypeId)} (hu : P.underlying t = some (.interface ms)) (a : TypeId) (b : Value) : (Op.equalIn (d + 1) t (.iface a b) .nilIface).run P w = .ok false w := by
  simp only [Op.equalIn, Sem.run_bind, run_underlying hu, Result.andThen_ok, Sem.run_pure]
theorem ifc_eq3 (d : Nat) {t : TypeId} {ms : Array (String × TypeId)} (hu : P.underlying t = some (.interface ms)) : (Op.equalIn (d + 1) t .nilIface .nilIface).run P w = .ok true w := by
  simp only [Op.equalIn, Sem.run_bind, run_underlying hu, Result.andThen_ok, Sem.run_pure]
theorem ifc_eq4 (d : Nat) {t : TypeId} {ms : Array (String × TypeId)} (hu : P.underlying t = some (.interface ms)) {a b : TypeId} (h : a ≠ b) (x y : Value) : (Op.equalIn (d + 1) t (.iface a x) (.iface b y)).run P w = .ok false w := by
  simp only [Op.equalIn, Sem.run_bind, run_underlying hu, Result.andThen_ok]
  rw [if_pos h]
  rfl
theorem ifc_eq5 (d : Nat) {t : TypeId} {ms : Array (String × TypeId)} (hu : P.underlying t = some (.interface ms)) {a : TypeId} {i : TypeInfo} (hi : P.info? a = some i) (hc : i.comparable = true) {k : IntKind} (hk : P.underlying a = some (.int k)) (x y : Int) : (Op.equalIn (d + 2) t (.iface a (.int k x)) (.iface a (.int k y))).run P w = .ok (x == y) w := by
  simp only [Op.equalIn, Sem.run_bind, run_underlying hu, Result.andThen_ok]
  rw [if_neg (by simp)]
  simp only [typeInfo, Sem.run_bind, run_program, Result.andThen_ok, hi, Sem.run_pure, hc, Bool.not_true, Bool.false_eq_true, if_false, run_underlying hk, if_true]
theorem ifcE_run {t : TypeId} {ms : Array (String × TypeId)} (hu : P.underlying t = some (.interface ms)) {ox oy : Operand} {x y : V} {cx cy : Value} {c : Bool} (hc : (isConst ox || isConst oy) = c) (hx : Rep g x cx) (hy : Rep g y cy) {b : Bool} (h : ifcE P c x y = some b) :
    (Op.equal t cx cy).run P w = .ok b w ∧ (∀ op, (eqGuard op t ox oy cx cy).run P w = .ok () w) ∧ (∀ k n, cx ≠ .int k n) ∧ (∀ s, cx ≠ .string s) ∧ (∀ k b, cx ≠ .float k b) ∧ (∀ k a b, cx ≠ .complex k a b) := by
  unfold ifcE at h
  split at h
  · cases hx; cases hy
    split at h
    · rename_i hc'
      injection h with h; subst h
      refine ⟨by rw [Op.equal, Op.maxDepth]; exact ifc_eq3 9999 hu, fun op => ?_, by simp, by simp, by simp, by simp⟩
      cases op <;> first | rfl | (cases ox <;> cases oy <;> first | rfl | (simp [isConst] at hc; done))
    · cases h
  · cases hx; cases hy
    injection h with h; subst h
    exact ⟨by rw [Op.equal, Op.maxDepth]; exact ifc_eq1 9999 hu _ _, fun op => by cases op <;> rfl, by simp, by simp, by simp, by simp⟩
  · cases hx; cases hy
    injection h with h; subst h
    exact ⟨by rw [Op.equal, Op.maxDepth]; exact ifc_eq2 9999 hu _ _, fun op => by cases op <;> rfl, by simp, by simp, by simp, by simp⟩
  · cases hx with | ifc h1 => cases hy with | ifc h2 =>
      cases h1; cases h2
      refine ⟨?_, fun op => by cases op <;> rfl, by simp, by simp, by simp, by simp⟩
      rw [Op.equal, Op.maxDepth]
      split at h
      · rename_i hne
        injection h with h; subst h
        exact ifc_eq4 9999 hu (fun e => by rw [e, Nat.beq_refl] at hne; cases hne) _ _
      · rename_i heq
        have heq := Nat.eq_of_beq_eq_true heq
        subst heq
        split at h
        · rename_i i hk
          split at h
          · rename_i hb
            injection h with h; subst h
            simp only [Bool.and_eq_true, decide_eq_true_eq] at hb
            obtain ⟨⟨rfl, rfl⟩, hcm⟩ := hb
            unfold cmpOk at hcm
            split at hcm
            · rename_i inf hi
              rw [ifc_eq5 9998 hu hi hcm (Ev.kind_int hk), eqI_eq]
              congr 1
            · cases hcm
          · cases h
        · cases h
  · cases h
theorem ifcB_did (hM : RM w0 g M n w) {op : BinOp} {t : TypeId} {ox oy : Operand} {x y : V} {cx cy : Value} (ht : isIfc P t = true) (hx : Rep g x cx) (hy : Rep g y cy) (h : ifcB P op (isConst ox || isConst oy) x y M n K = some r) :
    DidS w0 g M n w K r ((do eqGuard op t ox oy cx cy; binOp op t cx cy : Sem Value).run P w) := by
  obtain ⟨ms, hu⟩ : ∃ ms, P.underlying t = some (.interface ms) := by
    unfold isIfc at ht
    split at ht
    · rename_i ms hu; exact ⟨ms, hu⟩
    · cases ht
  unfold ifcB at h
  split at h
  · replace h := ob_some h; obtain ⟨b, hb, h⟩ := h
    rw [kB_eq] at h
    obtain ⟨k1, k2, k3, k4, k5, k6⟩ := ifcE_run (P := P) (w := w) hu rfl hx hy hb
    exact bin_val hM (k2 _) ((binOp_eql k1 k3 k4 k5 k6).1 ▸ did_ok hM h (.bool _))
  · replace h := ob_some h; obtain ⟨b, hb, h⟩ := h
    rw [kB_eq] at h
    obtain ⟨k1, k2, k3, k4, k5, k6⟩ := ifcE_run (P := P) (w := w) hu rfl hx hy hb
    exact bin_val hM (k2 _) ((binOp_eql k1 k3 k4 k5 k6).2 ▸ did_ok hM h (.bool _))
  · cases h

theorem RepL.drop : ∀ {as : List V} {vs : List Value} (k : Nat), RepL g as vs → RepL g (as.drop k) (vs.drop k)
  | _, _, 0, h => by simpa using h
  | _, _, k + 1, .nil => by simpa using RepL.nil
  | _, _, k + 1, .cons h t => by simpa using t.drop k
theorem partB_did (hM : RM w0 g M n w) {t : TypeId} {f : Nat} {x : V} {cx : Value} (hx : Rep g x cx) (h : partB P M n t f x K = some r) : DidS w0 g M n w K r ((Instr.field t cx f).run P w) := by
  unfold partB at h
  split at h
  · rename_i cs
    replace h := ob_some h; obtain ⟨⟨ft, off⟩, hf, h⟩ := h
    replace h := ob_some h; obtain ⟨ag, hag, h⟩ := h
    dsimp only at hag h
    unfold fldT at hf
    split at hf
    · rename_i fs hu
      split at hf
      · rename_i fd hfd
        injection hf with hf; injection hf with e1 e2
        subst e1 e2
        cases hx with | @agg _ vs hvs h1 =>
          have hrun : (Instr.field t (.agg vs) f).run P w = (part fd.type vs fd.offset).run P w := by
            unfold Instr.field
            simp only [Sem.run_bind, run_underlying hu, Result.andThen_ok, hfd, asAgg, Sem.run_pure]
          rw [hrun]
          unfold part
          cases ag with
          | true =>
            replace h := bb_some h; obtain ⟨hb, h⟩ := h
            rw [Bool.and_eq_true, Nat.blt_eq] at hb
            obtain ⟨hp, hl⟩ := hb
            have hl := Nat.le_of_ble_eq_true hl
            obtain ⟨i, hi⟩ := szT_info hp
            have hsz : szT P fd.type = i.size := by simp [szT, hi]
            simp only [Sem.run_bind, Ev.aggO_run hag, Result.andThen_ok, if_true, run_sizeOf hi, Sem.run_pure]
            refine did_ok hM h (.agg ?_ fun c hc => h1 c (List.mem_of_mem_drop (List.mem_of_mem_take hc)))
            have : (vs.extract fd.offset (fd.offset + i.size)).toList = (vs.toList.drop fd.offset).take i.size := by
              rw [Array.toList_extract, List.extract_eq_take_drop]
              congr 1
              omega
            rw [this, hsz]
            exact (hvs.drop _).take _
          | false =>
            replace h := ob_some h; obtain ⟨v, hv, h⟩ := h
            obtain ⟨cv, hcv, hr⟩ := hvs.get hv
            rw [Array.getElem?_toList] at hcv
            simp only [Sem.run_bind, Ev.aggO_run hag, Result.andThen_ok, Bool.false_eq_true, if_false, hcv, Sem.run_pure]
            exact did_ok hM h hr
      · cases hf
    · cases hf
  · cases h

theorem capB_did (hM : RM w0 g M n w) {t ty : TypeId} {x : V} {cx : Value} (hx : Rep g x cx) (h : capB P M n t x K = some r) : DidS w0 g M n w K r ((Builtin.cap_ #[t] ty #[cx]).run P w) := by
  unfold capB at h
  split at h
  · rename_i e hk
    cases hx
    rw [kN_eq] at h
    exact (show (Builtin.cap_ #[t] ty #[.slice none 0 0]).run P w = .ok (.int .i64 ((0 : Nat) : Int)) w by simp [Builtin.cap_, run_underlying (kind_slice hk), goInt]) ▸ did_ok hM h (.int _ _)
  · rename_i e id off z len lim hk
    cases hx with | @sl _ _ _ _ cap _ x p hg he hle hp hc =>
      have hrun : ∀ c : Nat, cap = c → (Builtin.cap_ #[t] ty #[.slice (some p) len cap]).run P w = .ok (.int .i64 (c : Int)) w := fun c e => by subst e; simp [Builtin.cap_, run_underlying (kind_slice hk), goInt]
      split at h
      · rename_i c
        rw [kN_eq] at h
        exact hrun c hc.1 ▸ did_ok hM h (.int _ _)
      · replace h := cellsAt_some h; obtain ⟨k, ex, c, hid, h⟩ := h
        replace h := bb_some h; obtain ⟨hb, h⟩ := h
        simp only [Bool.and_eq_true, Nat.blt_eq, Nat.beq_eq] at hb
        obtain ⟨⟨⟨hex, hz⟩, hok⟩, hm⟩ := hb
        have hok := Nat.le_of_ble_eq_true hok
        rw [kN_eq] at h
        obtain ⟨y, hy, cs, ty', fr, b1, b2, b3, b4, b5, b6⟩ := hM.rep id _ hid
        obtain rfl : x = y := by rw [hg] at hy; injection hy
        have hc : x.base + off + cap * z = x.size := hc
        have b5 := b5 hex
        have hcap : cap = (k - off) / z := by
          have : k - off = cap * z := by omega
          rw [this, Nat.mul_div_cancel _ hz]
        exact hrun _ hcap ▸ did_ok hM h (.int _ _)
  · cases h

/-! ### A text ranged over -/
theorem rangeB_did (hM : RM w0 g M n w) {t : TypeId} {x : V} {cx : Value} (hx : Rep g x cx) (h : rangeB P M n t x K = some r) : Did w0 g M w K r ((Instr.range t cx).run P w) := by
  unfold rangeB at h
  split at h
  · rename_i l hk
    rw [newB_eq] at h
    cases hx with | @str s _ e hs =>
      subst e
      have hrun : (Instr.range t (.string s)).run P w = .ok (.pointer (some ⟨w.heap.size, 0, none⟩)) (w.alloc (.stringIter s 0)) := by
        unfold Instr.range
        simp [Sem.run_bind, run_underlying (kind_str hk)]
      rw [hrun]
      have hx := hM.alloc (w1 := w) (.stringIter s 0) rfl rfl rfl rfl (x := ⟨w.heap.size, 0, 0⟩) (b := .siter (natsOf s) 0) rfl ⟨s, by simp, rfl, rfl⟩
      exact ⟨_, _, _, _, _, _, h, rfl, .ptr (x := ⟨w.heap.size, 0, 0⟩) updG_new, hx.1, hx.2⟩
  · cases h

theorem nextB_did (hM : RM w0 g M n w) {sb : Bool} {ty : TypeId} {x : V} {cx : Value} (hx : Rep g x cx) (h : nextB M n sb x K = some r) : Did w0 g M w K r ((Instr.next cx sb ty).run P w) := by
  unfold nextB at h
  split at h
  · rename_i id
    replace h := ob_some h; obtain ⟨b, hb, h⟩ := h
    split at h
    · rename_i l pos
      cases hx with | @ptr _ _ x hg =>
        obtain ⟨y, hy, s, h1, h2, h3⟩ := hM.rep id _ hb
        obtain rfl : x = y := by rw [hg] at hy; injection hy
        subst h2
        have hobj : (getObj x.blk).run P w = .ok (.stringIter s pos) w := by
          show Sem.run P (.getObj x.blk .pure) w = _
          simp only [Sem.run, h1]
        have hlen := natsOf_length s
        rw [h3]
        split at h
        · rename_i hd
          have hle : s.size ≤ pos := by have := List.drop_eq_nil_iff.1 hd; omega
          have hrun : (Instr.next (.pointer (some ⟨x.blk, 0 + 0, none⟩)) true ty).run P w = .ok (.tuple #[.bool false]) w := by
            unfold Instr.next
            simp only [Nat.add_zero, Sem.run_bind, hobj, Result.andThen_ok]
            rw [if_neg (by omega)]
            rfl
          rw [hrun]
          exact ⟨_, _, _, _, _, _, h, rfl, .tup (.cons (.bool _) .nil), hM, .refl g M w⟩
        · rename_i ch rest hd
          replace h := bb_some h; obtain ⟨hch, h⟩ := h
          have hch : ch < 128 := by simpa [Nat.blt_eq] using hch
          rw [T.setK_set] at h
          have hpos : pos < (natsOf s).length := by
            apply Classical.byContradiction
            intro hn
            rw [List.drop_eq_nil_iff.2 (by omega)] at hd
            cases hd
          have hpos' : pos < s.size := by omega
          have hget : (natsOf s)[pos]? = some ch := by
            have := congrArg List.head? hd
            rw [List.head?_drop] at this
            exact this
          have hbyte : (s.get! pos).toNat = ch := by
            unfold natsOf at hget
            rw [List.getElem?_map, Array.getElem?_toList] at hget
            have hps : pos < s.data.size := hpos'
            rw [Array.getElem?_eq_getElem hps] at hget
            injection hget with hget
            have : s.get! pos = s.data[pos] := by
              show s.data[pos]! = _
              exact getElem!_pos s.data pos hps
            rw [this]; exact hget
          have hdec : Utf8.decode s pos = (ch, 1) := by
            unfold Utf8.decode
            simp only [Nat.add_zero, hbyte]
            rw [if_pos hch]
          have hlt : x.blk < w.heap.size := (hM.lt id x hg).2.2
          have hset : (setObj x.blk (.stringIter s (pos + 1))).run P w = .ok () { w with heap := w.heap.setIfInBounds x.blk (.stringIter s (pos + 1)) } := by
            simp [setObj, Sem.run, h1]
          have hrun : (Instr.next (.pointer (some ⟨x.blk, 0 + 0, none⟩)) true ty).run P w = .ok (.tuple #[.bool true, .int .i64 pos, .int .i32 ch]) { w with heap := w.heap.setIfInBounds x.blk (.stringIter s (pos + 1)) } := by
            unfold Instr.next
            simp only [Nat.add_zero, Sem.run_bind, hobj, Result.andThen_ok]
            rw [if_pos hpos', hdec]
            simp only [Sem.run_bind, hset, Result.andThen_ok, Sem.run_pure, goInt]
          rw [hrun]
          have hw := hM.write (w' := { w with heap := w.heap.setIfInBounds x.blk (.stringIter s (pos + 1)) }) (b' := .siter (natsOf s) (Nat.succ pos)) hb hg (fun k hk => by
            show (w.heap.setIfInBounds x.blk _)[k]? = _
            rw [Array.getElem?_setIfInBounds, if_neg (fun e => hk e.symm)]) (by show (w.heap.setIfInBounds x.blk _).size = _; simp) ⟨s, by
            show (w.heap.setIfInBounds x.blk _)[x.blk]? = _
            rw [Array.getElem?_setIfInBounds, if_pos rfl, if_pos hlt], rfl, h3⟩ rfl rfl rfl
          exact ⟨_, _, _, _, _, _, h, rfl, .tup (.cons (.bool _) (.cons (.int _ _) (.cons (.int _ _) .nil))), hw.1, hw.2⟩
    · cases h
  · cases h

/-! ### Functions without a body -/
theorem idxL_eq (u : UInt8) : ∀ (l : List UInt8) (i : Nat), idxL u.toNat (l.map (fun x : UInt8 => x.toNat)) i = if Lib.indexByte l u = -1 then none else some (i + (Lib.indexByte l u).toNat)
  | [], i => rfl
  | b :: l, i => by
    have hge := Lib.indexByte_ge l u
    show (match Nat.beq b.toNat u.toNat with | true => some i | false => idxL u.toNat (l.map (fun x : UInt8 => x.toNat)) (Nat.succ i)) = _
    rw [Lib.indexByte]
    by_cases h : b = u
    · subst h
      simp [Nat.beq_refl]
    · have h1 : Nat.beq b.toNat u.toNat = false := by
        cases hb : Nat.beq b.toNat u.toNat with
        | false => rfl
        | true => exact absurd (UInt8.toNat_inj.1 (Nat.eq_of_beq_eq_true hb)) h
      have h2 : (b == u) = false := by simpa using h
      rw [h1, h2, idxL_eq u l (Nat.succ i)]
      simp only [Bool.false_eq_true, if_false, beq_iff_eq]
      by_cases h3 : Lib.indexByte l u = -1
      · simp [h3]
      · rw [if_neg h3, if_neg h3, if_neg (by omega)]
        congr 1
        omega
theorem cntL_eq (u : UInt8) : ∀ (l : List UInt8) (k : Nat), cntL u.toNat (l.map (fun x : UInt8 => x.toNat)) k = k + Lib.countByte l u
  | [], k => by simp [cntL, Lib.countByte]
  | b :: l, k => by
    show (match Nat.beq b.toNat u.toNat with | true => cntL u.toNat (l.map (fun x : UInt8 => x.toNat)) (Nat.succ k) | false => cntL u.toNat (l.map (fun x : UInt8 => x.toNat)) k) = _
    have hc : Lib.countByte (b :: l) u = Lib.countByte l u + if b = u then 1 else 0 := by
      unfold Lib.countByte
      rw [List.count_cons]
      simp
    rw [hc]
    by_cases h : b = u
    · subst h
      rw [Nat.beq_refl, if_pos rfl]
      show cntL b.toNat (l.map (fun x : UInt8 => x.toNat)) (Nat.succ k) = _
      rw [cntL_eq b l]
      omega
    · have h1 : Nat.beq b.toNat u.toNat = false := by
        cases hb : Nat.beq b.toNat u.toNat with
        | false => rfl
        | true => exact absurd (UInt8.toNat_inj.1 (Nat.eq_of_beq_eq_true hb)) h
      rw [h1, if_neg h]
      show cntL u.toNat (l.map (fun x : UInt8 => x.toNat)) k = _
      rw [cntL_eq u l]
      rfl
theorem find_idx {fn : Func} (h1 : fn.name = "internal/bytealg.IndexByteString") (h2 : fn.origin = "") : Extern.findNext fn = none ∧ Extern.find fn = some Extern.BytealgIndexByte.indexByte := by
  constructor
  · unfold Extern.findNext
    rw [h1, h2]
    dsimp only
    rw [show Extern.allNextRows.lookup "internal/bytealg.IndexByteString" = none from by kernel_rfl, show Extern.allNextRows.lookup "" = none from by kernel_rfl]
    rfl
  · unfold Extern.find
    rw [h1]
    dsimp only
    rw [show Extern.allGenericRows.lookup "internal/bytealg.IndexByteString" = none from by kernel_rfl, show Extern.allTypedRows.lookup "internal/bytealg.IndexByteString" = none from by kernel_rfl, show Extern.allRows.lookup "internal/bytealg.IndexByteString" = some Extern.BytealgIndexByte.indexByte from by kernel_rfl]
    rfl
theorem find_cnt {fn : Func} (h1 : fn.name = "internal/bytealg.CountString") (h2 : fn.origin = "") : Extern.findNext fn = none ∧ Extern.find fn = some Extern.BytealgCount.count := by
  constructor
  · unfold Extern.findNext
    rw [h1, h2]
    dsimp only
    rw [show Extern.allNextRows.lookup "internal/bytealg.CountString" = none from by kernel_rfl, show Extern.allNextRows.lookup "" = none from by kernel_rfl]
    rfl
  · unfold Extern.find
    rw [h1]
    dsimp only
    rw [show Extern.allGenericRows.lookup "internal/bytealg.CountString" = none from by kernel_rfl, show Extern.allTypedRows.lookup "internal/bytealg.CountString" = none from by kernel_rfl, show Extern.allRows.lookup "internal/bytealg.CountString" = some Extern.BytealgCount.count from by kernel_rfl]
    rfl
theorem ext_res (hM : RM w0 g M n w) {f : FuncId} {e : Ext} {xs : List V} {cargs : Array Value} (he : extP P f = some e) (hx : RepL g xs cargs.toList) (h : extB e xs M n K = some r) : ∃ v cv, K v M n = some r ∧ (callFunc f cargs).run P w = .ok (.value cv) w ∧ Rep g v cv := by
  unfold extP at he
  split at he
  · rename_i fn hf
    split at he
    · cases he
    · rename_i hb
      unfold extOf at he
      split at he
      · rename_i ho
        have ho : fn.origin = "" := by simpa using ho
        unfold extB at h
        split at h
        · rename_i l c
          obtain ⟨cs, cc, hc, h1, h2⟩ := hx.inv2
          obtain rfl : cargs = #[cs, cc] := by cases cargs; simp_all
          cases h2
          cases h1 with | @str s _ e1 hs =>
            subst e1
            have hcu : Nat.mod c 256 = ((Int.ofNat c).toNat.toUInt8).toNat := by
              show c % 256 = (c.toUInt8).toNat
              simp [Nat.toUInt8, UInt8.toNat_ofNat]
            split at he
            · rename_i hn
              have hn : fn.name = "internal/bytealg.IndexByteString" := by simpa using hn
              injection he with he; subst he
              obtain ⟨k1, k2⟩ := find_idx hn ho
              have hrun : (callFunc f #[.string s, .int .u8 (Int.ofNat c)]).run P w = .ok (.value (.int .i64 (Lib.indexByte s.data.toList (Int.ofNat c).toNat.toUInt8))) w := by
                rw [run_callFunc_extern hf (by rw [hn]; decide) (by rw [hb]; rfl) k1 k2, Lib.run_indexByteString]
                rfl
              dsimp only at h
              rw [hcu] at h
              unfold natsOf at h
              rw [idxL_eq] at h
              have hge := Lib.indexByte_ge s.data.toList (Int.ofNat c).toNat.toUInt8
              split at h
              · rename_i i hi
                split at hi
                · cases hi
                · rename_i hne
                  injection hi with hi
                  rw [kN_eq] at h
                  refine ⟨_, _, h, hrun, ?_⟩
                  have : (i : Int) = Lib.indexByte s.data.toList (Int.ofNat c).toNat.toUInt8 := by omega
                  rw [← this]; exact .int _ _
              · rename_i hi
                split at hi
                · rename_i heq
                  refine ⟨_, _, h, hrun, ?_⟩
                  rw [heq]; exact .int _ _
                · cases hi
            · split at he
              · rename_i hn
                have hn : fn.name = "internal/bytealg.CountString" := by simpa using hn
                injection he with he; subst he
                obtain ⟨k1, k2⟩ := find_cnt hn ho
                have hrun : (callFunc f #[.string s, .int .u8 (Int.ofNat c)]).run P w = .ok (.value (.int .i64 (Lib.countByte s.data.toList (Int.ofNat c).toNat.toUInt8))) w := by
                  rw [run_callFunc_extern hf (by rw [hn]; decide) (by rw [hb]; rfl) k1 k2, Lib.run_countString]
                  rfl
                dsimp only at h
                rw [hcu] at h
                unfold natsOf at h
                rw [cntL_eq, kN_eq, Nat.zero_add] at h
                exact ⟨_, _, h, hrun, .int _ _⟩
              · cases he
        · cases h
      · cases he
  · cases he
end Go.Eb

/-
The closed evaluator: every operation.
-/
set_option linter.unusedVariables false
set_option linter.unusedSimpArgs false
namespace Go.Eb
open Go.Ev (szT byT aggO offT fszT TK kindT elemK zok LK leavesT lift_v map_toArray parts_toArray array_of_toList)
variable {A : Type} {P : Program} {w0 : World} {g : Env} {F : Fr} {M : Mm} {n m : Nat} {a : Act} {w : World} {K : V → Mm → Nat → Option A} {r : A}

/-- What is behind a call. -/
def CallPost (w0 : World) (g : Env) (M : Mm) (w : World) (K : V → Mm → Nat → Option A) (r : A) : Ending → World → Prop := fun e w' =>
  ∃ v cv M' n' g', e = .returned cv ∧ K v M' n' = some r ∧ Rep g' v cv ∧ RM w0 g' M' n' w' ∧ Mv g M w g' M' w'
def CallGood (P : Program) (w0 : World) (call : CallT A) : Prop := GlobOk P w0 ∧ ∀ (f : FuncId) (xs : List V) (M : Mm) (n : Nat) (K : V → Mm → Nat → Option A) (r : A) (g : Env) (w : World) (cargs : Array Value),
  call f xs M n K = some r → RM w0 g M n w → RepL g xs cargs.toList → (callFunc f cargs).run P w = .ok (.enter f cargs) w ∧ Calls P f cargs w (CallPost w0 g M w K r)

inductive OpRes (P : Program) (w0 : World) (g : Env) (M : Mm) (n : Nat) (w : World) (K : V → Mm → Nat → Option A) (r : A) (st : Bool) (res : Result Next) : Prop where
  | still {v : V} {cv : Value} (hK : K v M n = some r) (hr : res = .ok (.value cv) w) (hv : Rep g v cv)
  | value {v : V} {M' : Mm} {n' : Nat} {g' : Env} {w' : World} {cv : Value} (hs : st = false) (hK : K v M' n' = some r) (hr : res = .ok (.value cv) w') (hv : Rep g' v cv) (hM : RM w0 g' M' n' w') (hm : Mv g M w g' M' w')
  | skip {M' : Mm} {n' : Nat} {w' : World} (hs : st = false) (hK : K (.tup []) M' n' = some r) (hr : res = .ok .skip w') (hM : RM w0 g M' n' w') (hm : Mv g M w g M' w')
  | call {f : FuncId} {cargs : Array Value} (hs : st = false) (hr : res = .ok (.enter f cargs) w) (hc : Calls P f cargs w (CallPost w0 g M w K r))

theorem Did.res {s : Sem Value} {q : Sem Next} {st : Bool} (h : Did w0 g M w K r (s.run P w)) (hst : st = false) (hq : ∀ cv w', s.run P w = .ok cv w' → q.run P w = .ok (.value cv) w') : OpRes P w0 g M n w K r st (q.run P w) := by
  obtain ⟨v, M', n', g', w', cv, h1, h2, h3, h4, h5⟩ := h
  exact .value hst h1 (hq _ _ h2) h3 h4 h5
theorem DidS.res {s : Sem Value} {q : Sem Next} {st : Bool} (h : DidS w0 g M n w K r (s.run P w)) (hq : ∀ cv w', s.run P w = .ok cv w' → q.run P w = .ok (.value cv) w') : OpRes P w0 g M n w K r st (q.run P w) := by
  obtain ⟨v, cv, h1, h2, h3, h4⟩ := h
  exact .still h1 (hq _ _ h2) h3

theorem callB_res {call : CallT A} (hcall : CallGood P w0 call) (hM : RM w0 g M n w) {f : V} {xs : List V} {cf : Value} {cvs : Array Value} (hf : Rep g f cf) (hxs : RepL g xs cvs.toList) (h : callB P call M n f xs K = some r) :
    OpRes P w0 g M n w K r false ((do let d ← Deferred.ofValue cf cvs; invoke d.target d.args : Sem Next).run P w) := by
  unfold callB at h
  split at h
  · rename_i k caps
    cases hf with | @clo _ _ ccaps hcaps =>
      have hall : RepL g (xs ++ caps) (cvs ++ ccaps).toList := by
        have := hxs.append hcaps
        simpa using this
      have hgo : (do let d ← Deferred.ofValue (.func (.func k) #[] ccaps) cvs; invoke d.target d.args : Sem Next).run P w = (callFunc k (cvs ++ ccaps)).run P w := by
        simp only [Deferred.ofValue, Sem.run_bind, Sem.run_pure, Result.andThen_ok, invoke, Array.empty_append]
      rw [hgo]
      split at h
      · rename_i e he
        obtain ⟨v, cv, h1, h2, h3⟩ := ext_res hM he hall h
        exact .still h1 h2 h3
      · obtain ⟨h1, h2⟩ := hcall.2 _ _ _ _ _ _ _ _ _ h hM hall
        exact .call rfl h1 h2
  · cases h

theorem builtinB_did (hM : RM w0 g M n w) {b : Builtin} {ts : Array TypeId} {ty : TypeId} {xs : List V} {cxs : Array Value} (hx : RepL g xs cxs.toList) (h : builtinB P M n b ts.toList xs K = some r) :
    ∃ s : Sem Value, (∀ cs, builtin b ts ty cs cxs = (do pure (.value (← s)))) ∧ (DidS w0 g M n w K r (s.run P w) ∨ (b ≠ .len ∧ b ≠ .min ∧ b ≠ .max ∧ Did w0 g M w K r (s.run P w))) := by
  have two : ∀ {x y : V}, xs = [x, y] → ∃ cx cy, cxs = #[cx, cy] ∧ Rep g x cx ∧ Rep g y cy := by
    rintro x y rfl
    obtain ⟨cx, cy, e, h1, h2⟩ := hx.inv2
    exact ⟨cx, cy, array_of_toList e, h1, h2⟩
  have one : ∀ {x : V}, xs = [x] → ∃ cx, cxs = #[cx] ∧ Rep g x cx := by
    rintro x rfl
    obtain ⟨cx, e, h1⟩ := hx.inv1
    exact ⟨cx, array_of_toList e, h1⟩
  unfold builtinB at h
  split at h
  · rename_i t x hts
    obtain ⟨cx, rfl, hx1⟩ := one rfl
    obtain rfl := array_of_toList hts
    exact ⟨_, fun _ => rfl, .inl (lenB_did hM hx1 h)⟩
  · rename_i t u x y hts
    obtain ⟨cx, cy, rfl, hx1, hy⟩ := two rfl
    obtain rfl := array_of_toList hts
    replace h := bb_some h; obtain ⟨hb, h⟩ := h
    replace h := ob_some h; obtain ⟨e, he, h⟩ := h
    exact ⟨_, fun _ => rfl, .inr ⟨by simp, by simp, by simp, appendB_did hM he hb hx1 hy h⟩⟩
  · rename_i t u x y hts
    obtain ⟨cx, cy, rfl, hx1, hy⟩ := two rfl
    obtain rfl := array_of_toList hts
    replace h := ob_some h; obtain ⟨e, he, h⟩ := h
    exact ⟨_, fun _ => rfl, .inr ⟨by simp, by simp, by simp, copyB_did hM he hx1 hy h⟩⟩
  · rename_i t x hts
    obtain ⟨cx, rfl, hx1⟩ := one rfl
    obtain rfl := array_of_toList hts
    exact ⟨_, fun _ => rfl, .inr ⟨by simp, by simp, by simp, clearB_did hM hx1 h⟩⟩
  · rename_i t u x y hts
    obtain ⟨cx, cy, rfl, hx1, hy⟩ := two rfl
    obtain rfl := array_of_toList hts
    exact ⟨_, fun _ => rfl, .inr ⟨by simp, by simp, by simp, deleteB_did hM hx1 hy h⟩⟩
  · rename_i x y
    obtain ⟨cx, cy, rfl, hx1, hy⟩ := two rfl
    have := minmaxB_did (P := P) (mx := false) (ts := ts) (ty := ty) hM hx1 hy h
    exact ⟨_, fun _ => rfl, .inl (by simpa using this)⟩
  · rename_i x y
    obtain ⟨cx, cy, rfl, hx1, hy⟩ := two rfl
    have := minmaxB_did (P := P) (mx := true) (ts := ts) (ty := ty) hM hx1 hy h
    exact ⟨_, fun _ => rfl, .inl (by simpa using this)⟩
  · rename_i t x hts
    obtain ⟨cx, rfl, hx1⟩ := one rfl
    obtain rfl := array_of_toList hts
    exact ⟨_, fun _ => rfl, .inl (capB_did hM hx1 h)⟩
  · cases h

theorem nilCheck_shape {x : V} {cx : Value} (hx : Rep g x cx) (h : nilCheckB M n x K = some r) : (∃ p, cx = .pointer (some p)) ∨ ∃ f b c, cx = .func (.func f) b c := by
  unfold nilCheckB at h
  split at h
  · cases hx; exact .inl ⟨_, rfl⟩
  · cases hx; exact .inr ⟨_, _, _, rfl⟩
  · cases h

theorem op_res {call : CallT A} (hcall : CallGood P w0 call) (hM : RM w0 g M n w) {o : Oper} (hF : EvR g F a o.op.operands.toList) (h : opB P call F M n o.op K = some r) : OpRes P w0 g M n w K r (isStill P o.op) ((execOp a.eval o).run P w) := by
  unfold opB at h
  split at h
  · rename_i x ho
    replace h := ob_some h; obtain ⟨v, hv, h⟩ := h
    exact .still h (by simp only [execOp, ho, Sem.run_pure]) (hF x (by rw [ho]; simp [Op.operands]) _ hv)
  · rename_i x ho
    replace h := ob_some h; obtain ⟨v, hv, h⟩ := h
    exact .still h (by simp only [execOp, ho, Sem.run_pure]) (hF x (by rw [ho]; simp [Op.operands]) _ hv)
  · rename_i c x y ho
    refine (pick_did (P := P) hM (hF.sub (by rw [ho]; simp [Op.operands])) h).res fun cv w' hr => ?_
    simp only [execOp, ho]
    have := lift_v hr
    simpa [Sem.run_bind] using this
  · rename_i e ho
    exact (allocB_did hM h).res (by rw [ho]; rfl) fun cv w' hr => by simp only [execOp, ho]; exact lift_v hr
  · rename_i t x ho
    replace h := ob_some h; obtain ⟨v, hv, h⟩ := h
    exact (boxB_did hM (hF x (by rw [ho]; simp [Op.operands]) _ hv) h).res (by rw [ho]; rfl) fun cv w' hr => by simp only [execOp, ho]; exact lift_v hr
  · rename_i t ps ho
    have := buildB_did (a := a) hM (hF.sub (by rw [ho]; simp [Op.operands])) h
    rw [parts_toArray] at this
    exact this.res fun cv w' hr => by simp only [execOp, ho]; exact lift_v hr
  · rename_i t l ps ho
    have := buildSliceB_did (a := a) hM (hF.sub (by rw [ho]; simp [Op.operands])) h
    rw [parts_toArray] at this
    exact this.res (by rw [ho]; rfl) fun cv w' hr => by simp only [execOp, ho]; exact lift_v hr
  · rename_i t p ho
    replace h := ob_some h; obtain ⟨v, hv, h⟩ := h
    exact (loadB_did hcall.1 hM (hF p (by rw [ho]; simp [Op.operands]) _ hv) h).res fun cv w' hr => by simp only [execOp, ho]; exact lift_v hr
  · rename_i t p x ho
    replace h := ob_some h; obtain ⟨vp, hp, h⟩ := h
    replace h := ob_some h; obtain ⟨v, hv, h⟩ := h
    obtain ⟨M', n', w', hK, hr, hM', hm⟩ := storeB_did (P := P) hM (hF p (by rw [ho]; simp [Op.operands]) _ hp) (hF x (by rw [ho]; simp [Op.operands]) _ hv) h
    exact .skip (by rw [ho]; rfl) hK (by simp only [execOp, ho]; rw [Sem.run_bind, hr]; rfl) hM' hm
  · rename_i x ho
    replace h := ob_some h; obtain ⟨v, hv, h⟩ := h
    have hshape := nilCheck_shape (hF x (by rw [ho]; simp [Op.operands]) _ hv) h
    refine (DidS.res (s := pure (a.eval x)) (by simpa using (nilCheckB_did (P := P) hM (hF x (by rw [ho]; simp [Op.operands]) _ hv) h).1) fun cv w' hr => ?_)
    simp only [Sem.run_pure, Result.ok.injEq] at hr
    obtain ⟨rfl, rfl⟩ := hr
    simp only [execOp, ho]
    rcases hshape with ⟨p, hp⟩ | ⟨f, b1, b2, hp⟩ <;> rw [hp] <;> rfl
  · rename_i op t x y pos ho
    replace h := ob_some h; obtain ⟨vx, hx, h⟩ := h
    replace h := ob_some h; obtain ⟨vy, hy, h⟩ := h
    split at h
    · rename_i hi
      exact (ifcB_did (ox := x) (oy := y) hM hi (hF x (by rw [ho]; simp [Op.operands]) _ hx) (hF y (by rw [ho]; simp [Op.operands]) _ hy) h).res fun cv w' hr => by simp only [execOp, ho]; exact lift_v hr
    · exact (binB_did (ox := x) (oy := y) hM (hF x (by rw [ho]; simp [Op.operands]) _ hx) (hF y (by rw [ho]; simp [Op.operands]) _ hy) h).res fun cv w' hr => by simp only [execOp, ho]; exact lift_v hr
  · rename_i op t x ho
    replace h := ob_some h; obtain ⟨v, hv, h⟩ := h
    exact (unB_did hM (hF x (by rw [ho]; simp [Op.operands]) _ hv) h).res fun cv w' hr => by simp only [execOp, ho]; exact lift_v hr
  · rename_i s d x ho
    replace h := ob_some h; obtain ⟨v, hv, h⟩ := h
    rcases convB_did hM (hF x (by rw [ho]; simp [Op.operands]) _ hv) h with hd | ⟨⟨e, he⟩, hd⟩
    · exact hd.res fun cv w' hr => by simp only [execOp, ho]; exact lift_v hr
    · exact hd.res (by rw [ho]; simp [isStill, he]) fun cv w' hr => by simp only [execOp, ho]; exact lift_v hr
  · rename_i f first caps ho
    replace h := bb_some h; obtain ⟨hb, h⟩ := h
    replace h := opndsK_some h; obtain ⟨vs, hvs, h⟩ := h
    have hfe : first = #[] := by simpa using hb
    subst hfe
    have hrep : Rep g (.clo f vs) (.func (.func f) #[] (caps.map a.eval)) := .clo (by rw [map_toArray]; exact (hF.sub (by rw [ho]; simp [Op.operands])).evals hvs)
    exact .still h (by simp only [execOp, ho]; exact lift_v (by simp [Instr.makeFunc])) hrep
  · rename_i t ho
    exact (makeMap_did (s := Instr.makeMap t none) hM rfl h).res (by rw [ho]; rfl) fun cv w' hr => by simp only [execOp, ho]; exact lift_v hr
  · rename_i t x ho
    replace h := ob_some h; obtain ⟨q, hq, h⟩ := h
    replace h := ob_some h; obtain ⟨v, hv, h⟩ := h
    obtain ⟨kt, hu, hku⟩ := mapT_some hq
    split at h
    · rename_i k z
      have hrv := hF x (by rw [ho]; simp [Op.operands]) _ hv
      refine (makeMap_did (P := P) (s := Instr.makeMap t (some (a.eval x))) hM ?_ h).res (by rw [ho]; rfl) fun cv w' hr => by simp only [execOp, ho]; exact lift_v hr
      generalize a.eval x = cx at hrv
      cases hrv
      unfold Instr.makeMap
      simp only [Sem.run_bind, run_underlying hu, Result.andThen_ok, asInt, Sem.run_pure]
      rfl
    · cases h
  · rename_i t l c ho
    replace h := ob_some h; obtain ⟨e, he, h⟩ := h
    replace h := ob_some h; obtain ⟨vl, hl, h⟩ := h
    replace h := ob_some h; obtain ⟨vc, hc, h⟩ := h
    exact (makeSliceB_did hM he (hF l (by rw [ho]; simp [Op.operands]) _ hl) (hF c (by rw [ho]; simp [Op.operands]) _ hc) h).res (by rw [ho]; rfl) fun cv w' hr => by simp only [execOp, ho]; exact lift_v hr
  · rename_i t x lo hi mx ho
    replace h := ob_some h; obtain ⟨v, hv, h⟩ := h
    exact (sliceB_did hM (hF.sub (by rw [ho]; simp [Op.operands]; intro y hy; simp [hy])) (hF x (by rw [ho]; simp [Op.operands]) _ hv) h).res fun cv w' hr => by simp only [execOp, ho]; exact lift_v hr
  · rename_i t x f ho
    replace h := ob_some h; obtain ⟨v, hv, h⟩ := h
    exact (fieldB_did hM (hF x (by rw [ho]; simp [Op.operands]) _ hv) h).res fun cv w' hr => by simp only [execOp, ho]; exact lift_v hr
  · rename_i t x i ho
    replace h := ob_some h; obtain ⟨v, hv, h⟩ := h
    replace h := ob_some h; obtain ⟨vi, hi, h⟩ := h
    exact (indexAddrB_did hM (hF x (by rw [ho]; simp [Op.operands]) _ hv) (hF i (by rw [ho]; simp [Op.operands]) _ hi) h).res fun cv w' hr => by simp only [execOp, ho]; exact lift_v hr
  · rename_i t x i ho
    replace h := ob_some h; obtain ⟨v, hv, h⟩ := h
    replace h := ob_some h; obtain ⟨vi, hi, h⟩ := h
    exact (indexB_did hM (hF x (by rw [ho]; simp [Op.operands]) _ hv) (hF i (by rw [ho]; simp [Op.operands]) _ hi) h).res fun cv w' hr => by simp only [execOp, ho]; exact lift_v hr
  · rename_i t x i ok ho
    replace h := ob_some h; obtain ⟨v, hv, h⟩ := h
    replace h := ob_some h; obtain ⟨vi, hi, h⟩ := h
    exact (lookupB_did hM (hF x (by rw [ho]; simp [Op.operands]) _ hv) (hF i (by rw [ho]; simp [Op.operands]) _ hi) h).res fun cv w' hr => by simp only [execOp, ho]; exact lift_v hr
  · rename_i t mo k x ho
    replace h := ob_some h; obtain ⟨vm, hm, h⟩ := h
    replace h := ob_some h; obtain ⟨vk, hk, h⟩ := h
    replace h := ob_some h; obtain ⟨v, hv, h⟩ := h
    obtain ⟨M', n', w', hK, hr, hM', hm'⟩ := mapUpdateB_did (P := P) hM (hF mo (by rw [ho]; simp [Op.operands]) _ hm) (hF k (by rw [ho]; simp [Op.operands]) _ hk) (hF x (by rw [ho]; simp [Op.operands]) _ hv) h
    exact .skip (by rw [ho]; rfl) hK (by simp only [execOp, ho]; rw [Sem.run_bind, hr]; rfl) hM' hm'
  · rename_i x i ho
    replace h := ob_some h; obtain ⟨v, hv, h⟩ := h
    exact (extractB_did hM (hF x (by rw [ho]; simp [Op.operands]) _ hv) h).res fun cv w' hr => by simp only [execOp, ho]; exact lift_v hr
  · rename_i f args ts ho
    replace h := ob_some h; obtain ⟨v, hv, h⟩ := h
    replace h := opndsK_some h; obtain ⟨vs, hvs, h⟩ := h
    have := callB_res (cvs := args.map a.eval) hcall hM (hF f (by rw [ho]; simp [Op.operands, Call.operands]) _ hv) (by rw [map_toArray]; exact (hF.sub (by rw [ho]; simp [Op.operands, Call.operands]; intro y hy; exact .inr hy)).evals hvs) h
    have e : isStill P o.op = false := by rw [ho]; rfl
    rw [e]
    simp only [execOp, ho, resolve]
    exact this
  · rename_i b args ts ho
    replace h := opndsK_some h; obtain ⟨vs, hvs, h⟩ := h
    obtain ⟨s, hs, hd⟩ := builtinB_did (P := P) (ts := ts) (ty := o.type) (cxs := args.map a.eval) hM (by rw [map_toArray]; exact (hF.sub (by rw [ho]; simp [Op.operands, Call.operands])).evals hvs) h
    have hrun : ∀ cv w', s.run P w = .ok cv w' → (execOp a.eval o).run P w = .ok (.value cv) w' := fun cv w' hr => by
      simp only [execOp, ho, resolve, Sem.run_bind, Sem.run_pure, Result.andThen_ok, invoke, hs, hr]
    rcases hd with hd | ⟨h1, h2, h3, hd⟩
    · exact hd.res hrun
    · exact hd.res (by rw [ho]; cases b <;> first | rfl | exact absurd rfl h1 | exact absurd rfl h2 | exact absurd rfl h3) hrun
  · rename_i t x ho
    replace h := ob_some h; obtain ⟨v, hv, h⟩ := h
    exact (makeInterface_did hM (hF x (by rw [ho]; simp [Op.operands]) _ hv) h).res fun cv w' hr => by simp only [execOp, ho]; exact lift_v hr
  · rename_i t x f ho
    replace h := ob_some h; obtain ⟨v, hv, h⟩ := h
    exact (partB_did hM (hF x (by rw [ho]; simp [Op.operands]) _ hv) h).res fun cv w' hr => by simp only [execOp, ho]; exact lift_v hr
  · rename_i t x ho
    replace h := ob_some h; obtain ⟨v, hv, h⟩ := h
    exact (rangeB_did hM (hF x (by rw [ho]; simp [Op.operands]) _ hv) h).res (by rw [ho]; rfl) fun cv w' hr => by simp only [execOp, ho]; exact lift_v hr
  · rename_i x sb ho
    replace h := ob_some h; obtain ⟨v, hv, h⟩ := h
    exact (nextB_did (ty := o.type) hM (hF x (by rw [ho]; simp [Op.operands]) _ hv) h).res (by rw [ho]; rfl) fun cv w' hr => by simp only [execOp, ho]; exact lift_v hr
  · cases h
end Go.Eb

/-
The closed evaluator: regions in their own order.
-/
set_option linter.unusedVariables false
set_option linter.unusedSimpArgs false
namespace Go.Eb
variable {A : Type} {P : Program} {w0 : World} {g : Env} {F : Fr} {M : Mm} {n m : Nat} {a : Act} {w : World} {r : A}

/-- Slots of a list stand for what is in the frame. -/
def SlotR (g : Env) (F : Fr) (a : Act) (ts : List Nat) : Prop := ∀ t ∈ ts, ∀ v, F.get t = some v → Rep g v (a.tmps.getD t undef)
theorem SlotR.ev {xs : List Operand} {ts : List Nat} (h : SlotR g F a ts) (hs : ∀ t, Operand.tmp t ∈ xs → t ∈ ts) : EvR g F a xs := fun x hx v hv => by
  cases x with
  | tmp t => exact h t (hs t hx) v hv
  | func f => simp only [opnd, Option.some.injEq] at hv; subst hv; exact .clo .nil
  | global k => simp only [opnd, Option.some.injEq] at hv; subst hv; exact .glob k
  | const c => exact ofV_rep hv
theorem tmps_mem {all : List Oper} {o : Oper} {t : Nat} (h : Operand.tmp t ∈ o.op.operands.toList) : t ∈ tmpsOf all o := by
  unfold tmpsOf
  exact List.mem_append_left _ (List.mem_filterMap.2 ⟨_, h, rfl⟩)

theorem guardB_run {ops : Array Oper} {o : Oper} {b : Bool} (hs : SlotR g F a (tmpsOf ops.toList o)) (h : guardB ops.toList F o.guard = some b) : Region.wanted o (yielded ops a.tmps) = b := by
  unfold guardB at h
  unfold Region.wanted
  split at h
  · rename_i hg; rw [hg]; injection h
  · rename_i gd hg
    rw [hg]
    obtain ⟨j, want⟩ := gd
    replace h := ob_some h; obtain ⟨d, hd, h⟩ := h
    replace h := ob_some h; obtain ⟨v, hv, h⟩ := h
    have hd' : (ops[j]?).bind (·.dst) = some d := by unfold dstAt at hd; rwa [Array.getElem?_toList] at hd
    have hrep := hs d (by unfold tmpsOf guardSlot; rw [hg]; exact List.mem_append_right _ (by simp [hd])) v hv
    have hy : yielded ops a.tmps j = match a.tmps[d]? with | some (.bool b) => some b | _ => none := by unfold yielded; rw [hd']; rfl
    show (yielded ops a.tmps j == some want) = b
    rw [hy]
    rw [Array.getD_eq_getD_getElem?] at hrep
    unfold guardIs at h
    split at h
    · rename_i c
      injection h with h
      cases hx : a.tmps[d]? with
      | none => rw [hx] at hrep; cases hrep
      | some x => rw [hx] at hrep; cases hrep; subst h; cases c <;> cases want <;> rfl
    · injection h with h
      subst h
      cases hx : a.tmps[d]? with
      | none => simp
      | some x => rw [hx] at hrep; cases hrep; simp
    · cases h

/-- One operation. -/
theorem oper_wp {call : CallT A} (hcall : CallGood P w0 call) {ops : Array Oper} {o : Oper} {K : V → Mm → Nat → Option A} {next : Act → World → Prop} {Q : Exit → Act → World → Prop}
    (hM : RM w0 g M n w) (hs : SlotR g F a (tmpsOf ops.toList o)) (h : operB P call ops.toList o F M n K = some r)
    (hn : ∀ v M' n' g' w' cv, K v M' n' = some r → Rep g' v cv → RM w0 g' M' n' w' → Mv g M w g' M' w' → (isStill P o.op = true → w' = w ∧ M' = M ∧ n' = n ∧ g' = g) → next (a.put o.dst cv) w') :
    if Region.wanted o (yielded ops a.tmps) then o.wp P a w next Q ∨ (o.asks P a w ∧ LetsOut Q) else next (a.put o.dst undef) w := by
  unfold operB at h
  replace h := ob_some h; obtain ⟨b, hb, h⟩ := h
  rw [guardB_run hs hb]
  cases b with
  | false => exact hn _ _ _ _ _ _ h (.tup .nil) hM (.refl g M w) fun _ => ⟨rfl, rfl, rfl, rfl⟩
  | true =>
    refine .inl ?_
    unfold Oper.wp
    cases op_res hcall hM (hs.ev fun t ht => tmps_mem ht) h with
    | still hK hr hv => rw [hr]; exact hn _ _ _ _ _ _ hK hv hM (.refl g M w) fun _ => ⟨rfl, rfl, rfl, rfl⟩
    | value hst hK hr hv hM' hm => rw [hr]; exact hn _ _ _ _ _ _ hK hv hM' hm fun e => by rw [hst] at e; cases e
    | skip hst hK hr hM' hm => rw [hr]; exact hn _ _ _ _ _ _ hK (.tup .nil) hM' hm fun e => by rw [hst] at e; cases e
    | call hst hr hc =>
      rw [hr, Oper.upon_enter]
      refine Calls.mono hc fun e w' he => ?_
      obtain ⟨v, cv, M', n', g', rfl, hK, hv, hM', hm⟩ := he
      exact hn _ _ _ _ _ _ hK hv hM' hm fun e => by rw [hst] at e; cases e

theorem RF.slots (h : RF g F m a) (ts : List Nat) : SlotR g F a ts := fun t _ v hv => h.tmp t v hv
theorem RF.putO (h : RF g F m a) {d : Option Tmp} {v : V} {cv : Value} {K : Fr → Option A} (hv : Rep g v cv) (hp : putK m F d v K = some r) : ∃ F', K F' = some r ∧ RF g F' m (a.put d cv) := by
  unfold putK at hp
  split at hp
  · rename_i d
    replace hp := bb_some hp; obtain ⟨hb, hp⟩ := hp
    rw [T.setK_set] at hp
    exact ⟨_, hp, h.put (Nat.le_of_ble_eq_true hb) hv⟩
  · exact ⟨F, hp, h⟩

/-- Operations one behind another. -/
theorem opsB_wp {call : CallT A} (hcall : CallGood P w0 call) {ops : Array Oper} {K : Fr → Mm → Nat → Option A} {Q : Exit → Act → World → Prop} : ∀ {suf pre : List Oper} {F : Fr} {M : Mm} {n : Nat} {g : Env} {a : Act} {w : World}, ops.toList = pre ++ suf →
    opsB P call m ops.toList suf F M n K = some r → RM w0 g M n w → RF g F m a →
    (∀ F' M' n' g' a' w', K F' M' n' = some r → RF g' F' m a' → RM w0 g' M' n' w' → Mv g M w g' M' w' → Q .normal a' w') →
    wpOps P ops Q (List.range' pre.length suf.length) a w
  | [], pre, F, M, n, g, a, w, _, h, hM, hF, hQ => hQ _ _ _ _ _ _ h hF hM (.refl g M w)
  | o :: suf, pre, F, M, n, g, a, w, he, h, hM, hF, hQ => by
    have ho : ops[pre.length]? = some o := by rw [← Array.getElem?_toList, he]; simp
    have h : operB P call ops.toList o F M n (fun v M n => putK m F o.dst v fun F => opsB P call m ops.toList suf F M n K) = some r := h
    rw [List.length_cons, List.range'_succ]
    unfold wpOps
    rw [ho]
    refine oper_wp hcall hM (hF.slots _) h fun v M' n' g' w' cv hK hv hM' hm _ => ?_
    obtain ⟨F', hK, hF'⟩ := (hF.mono hm.ext).putO hv hK
    have := opsB_wp (pre := pre ++ [o]) (ops := ops) (Q := Q) (a := a.put o.dst cv) (w := w') hcall (by simp [he]) hK hM' hF' fun F2 M2 n2 g2 a2 w2 h1 h2 h3 h4 => hQ F2 M2 n2 g2 a2 w2 h1 h2 h3 (hm.trans h4)
    simpa using this
/-- A region that does not draw. -/
theorem region_wp {call : CallT A} (hcall : CallGood P w0 call) {id : Nat} {ops : Array Oper} {K : Fr → Mm → Nat → Option A} {Q : Exit → Act → World → Prop} (h : opsB P call m ops.toList ops.toList F M n K = some r) (hM : RM w0 g M n w) (hF : RF g F m a)
    (hQ : ∀ F' M' n' g' a' w', K F' M' n' = some r → RF g' F' m a' → RM w0 g' M' n' w' → Mv g M w g' M' w' → Q .normal a' w') : (Code.region id ops false).wp P Q a w := by
  refine wp_region ?_
  have := opsB_wp (pre := []) hcall rfl h hM hF hQ
  simpa [List.range_eq_range'] using this
end Go.Eb

/-
The closed evaluator: what is known of the plan of a region.
-/
set_option linter.unusedVariables false
set_option linter.unusedSimpArgs false
namespace Go.Eb
variable {A : Type} {P : Program}

theorem forceN_eq {α : Type} (n : Nat) (K : Nat → α) : forceN n K = K n := by cases n <;> rfl
theorem tb_eq (m i : Nat) : tb m i = m.testBit i := by
  unfold tb Nat.testBit
  rw [Bool.eq_iff_iff]
  simp only [bne_iff_ne, ne_eq, Nat.beq_eq]
  have h : Nat.land (Nat.shiftRight m i) 1 = 1 &&& m >>> i := Nat.and_comm _ _
  rw [h, Nat.one_and_eq_mod_two]
  omega
theorem bt_bit (m i j : Nat) : tb (bt m i) j = (tb m j || decide (i = j)) := by
  rw [tb_eq, tb_eq]
  show (m ||| 1 <<< i).testBit j = _
  rw [Nat.testBit_or, Nat.one_shiftLeft, Nat.testBit_two_pow]
theorem lor_bit (a b j : Nat) : tb (Nat.lor a b) j = (tb a j || tb b j) := by
  rw [tb_eq, tb_eq, tb_eq]
  show (a ||| b).testBit j = _
  rw [Nat.testBit_or]
theorem sub_bit {a b : Nat} (h : sub a b = true) {i : Nat} (hi : tb a i = true) : tb b i = true := by
  unfold sub at h
  rw [tb_eq] at *
  have h : a &&& b = a := Nat.eq_of_beq_eq_true h
  rw [← h, Nat.testBit_and, Bool.and_eq_true] at hi
  exact hi.2
theorem sub_of {a b : Nat} (h : ∀ i, tb a i = true → tb b i = true) : sub a b = true := by
  unfold sub
  have : a &&& b = a := by
    apply Nat.eq_of_testBit_eq
    intro i
    rw [Nat.testBit_and]
    have := h i
    rw [tb_eq, tb_eq] at this
    cases ha : a.testBit i with
    | false => rfl
    | true => rw [this ha]; rfl
  show Nat.beq (a &&& b) a = true
  rw [this]; exact Nat.beq_refl a
theorem tb_zero (i : Nat) : tb 0 i = false := by rw [tb_eq]; simp
theorem mask_bit {l : List Nat} {e : Nat} : tb (maskOf l) e = true ↔ e ∈ l := by
  induction l with
  | nil => simp [maskOf, tb_zero]
  | cons x l ih =>
    rw [maskOf, bt_bit, Bool.or_eq_true, ih, decide_eq_true_eq, List.mem_cons]
    constructor
    · rintro (h | h); exact .inr h; exact .inl h.symm
    · rintro (h | h); exact .inr h.symm; exact .inl h

/-- A set of operations with all that they wait for. -/
def Down (all : List Oper) (D : Nat → Prop) : Prop := ∀ i o, all[i]? = some o → D i → ∀ e ∈ bindOn o, D e
structure PreOk (P : Program) (fl : Bool) (all : List Oper) (p : Pre) : Prop where
  at' : all[p.i]? = some p.o
  lt : ∀ e ∈ bindOn p.o, e < p.i
  b : ∀ e, tb p.b e = true ↔ e ∈ bindOn p.o
  a : ∀ D, Down all D → (∀ e ∈ bindOn p.o, D e) → ∀ e, tb p.a e = true → D e
  st : p.st = stays P p.o.op
  fl : p.fl = (fl && isFlt p.o)
theorem stays_still {op : Op} (h : stays P op = true) : isStill P op = true := by
  unfold stays at h
  split at h
  · cases h
  · exact h

theorem nth_lt {α : Type} : ∀ {l : List α} {i : Nat} {x : α}, nth l i = some x → l[i]? = some x
  | [], i, x, h => by cases h
  | a :: l, 0, x, h => by simpa [nth] using h
  | a :: l, k + 1, x, h => by rw [nth] at h; simpa using nth_lt h

theorem closure_some {D : Nat → Prop} {tbl : List Nat} {i : Nat} (ht : ∀ e x, e < i → tbl[i - 1 - e]? = some x → D e → ∀ j, tb x j = true → D j) :
    ∀ {l : List Nat} {m x : Nat}, closure tbl i l m = some x → (∀ e ∈ l, e < i) ∧ ((∀ e ∈ l, D e) → (∀ j, tb m j = true → D j) → ∀ j, tb x j = true → D j)
  | [], m, x, h => by
    injection h with h; subst h
    exact ⟨by simp, fun _ h => h⟩
  | e :: l, m, x, h => by
    rw [closure] at h
    split at h
    · rename_i hb
      split at h
      · rename_i y hy
        have hlt : e < i := Nat.le_of_ble_eq_true hb
        obtain ⟨h1, h2⟩ := closure_some ht h
        refine ⟨fun k hk => by rcases List.mem_cons.1 hk with rfl | hk; exact hlt; exact h1 k hk, fun hD hm => h2 (fun k hk => hD k (by simp [hk])) fun j hj => ?_⟩
        rw [lor_bit, bt_bit, Bool.or_eq_true, Bool.or_eq_true, decide_eq_true_eq] at hj
        rcases hj with (hj | rfl) | hj
        · exact hm j hj
        · exact hD _ (by simp)
        · exact ht e y hlt (nth_lt hy) (hD e (by simp)) j hj
      · cases h
    · cases h

theorem mkPre_some {fl : Bool} {all : List Oper} : ∀ {l pre : List Oper} {tbl : List Nat} {acc ps : List Pre}, all = pre ++ l → mkPre P fl l pre.length tbl acc = some ps →
    (∀ D, Down all D → ∀ e x, e < pre.length → tbl[pre.length - 1 - e]? = some x → D e → ∀ j, tb x j = true → D j) → (∀ p ∈ acc, PreOk P fl all p) → (∀ i, i < pre.length → ∃ p ∈ acc, p.i = i) →
    (∀ p ∈ ps, PreOk P fl all p) ∧ ∀ i, i < all.length → ∃ p ∈ ps, p.i = i
  | [], pre, tbl, acc, ps, he, h, _, ha, hi => by
    injection h with h; subst h
    exact ⟨ha, fun i h => hi i (by simpa [he] using h)⟩
  | o :: l, pre, tbl, acc, ps, he, h, ht, ha, hi => by
    rw [mkPre] at h
    split at h
    · rename_i x hx
      rw [forceN_eq] at h
      have ho : all[pre.length]? = some o := by rw [he]; simp
      have hcl := fun D hD => closure_some (ht D hD) hx
      have hlt : ∀ e ∈ bindOn o, e < pre.length := (hcl (fun _ => True) (fun _ _ _ _ _ _ => trivial)).1
      have h : mkPre P fl l (pre ++ [o]).length (x :: tbl) (⟨pre.length, o, maskOf (bindOn o), x, stays P o.op, fl && isFlt o⟩ :: acc) = some ps := by simpa using h
      refine mkPre_some (by simp [he]) h (fun D hD e y hlt' hy hDe j hj => ?_) (fun p hp => ?_) fun i hi' => ?_
      · simp only [List.length_append, List.length_cons, List.length_nil, Nat.zero_add, Nat.add_sub_cancel] at hy hlt'
        by_cases hee : e = pre.length
        · subst hee
          simp only [Nat.sub_self, List.getElem?_cons_zero, Option.some.injEq] at hy
          subst hy
          exact (hcl D hD).2 (hD _ _ ho hDe) (by simp [tb_zero]) j hj
        · have : pre.length - e = (pre.length - 1 - e) + 1 := by omega
          rw [this, List.getElem?_cons_succ] at hy
          exact ht D hD e y (by omega) hy hDe j hj
      · rcases List.mem_cons.1 hp with rfl | hp
        · exact ⟨ho, hlt, fun e => mask_bit, fun D hD hb e he => (hcl D hD).2 hb (by simp [tb_zero]) e he, rfl, rfl⟩
        · exact ha p hp
      · by_cases hee : i = pre.length
        · exact ⟨_, List.mem_cons_self, hee.symm⟩
        · obtain ⟨p, hp, e⟩ := hi i (by simp at hi'; omega)
          exact ⟨p, by simp [hp], e⟩
    · cases h

structure PsOk (P : Program) (all : List Oper) (ps : List Pre) : Prop where
  each : ∃ fl, ∀ p ∈ ps, PreOk P fl all p
  full : ∀ i, i < all.length → ∃ p ∈ ps, p.i = i
  names : ∀ p ∈ ps, ∀ t ∈ tmpsOf all p.o, ∀ q ∈ ps, q.o.dst = some t → tb p.a q.i = true ∨ (q.st = false ∧ q.fl = false)
  flt : ∀ p ∈ ps, p.fl = true → ∀ q ∈ ps, ∀ d, q.o.dst = some d → d ≤ 1000000 ∧ (d ∈ tmpsOf all p.o → tb p.a q.i = true) ∧ (p.o.dst = some d → p.i = q.i)

theorem planBy_some {fl : Bool} {all : List Oper} {pl : Plan} (h : planBy P fl all = some pl) : ∃ ps, PsOk P all ps ∧ P.follows .mixedOrders = true ∧ mkPlan ps (all.length + 1) 0 0 [] = some pl := by
  unfold planBy at h
  split at h
  · rename_i ps hps
    split at h
    · rename_i hb
      rw [Bool.and_eq_true, Bool.and_eq_true] at hb
      have hp : mkPre P fl all ([] : List Oper).length [] [] = some ps := hps
      obtain ⟨h1, h2⟩ := mkPre_some (all := all) rfl hp (by simp) (by simp) (by simp)
      refine ⟨ps, ⟨⟨fl, h1⟩, h2, fun p hp t ht q hq hd => ?_, fun p hp hf q hq d hd => ?_⟩, hb.2, h⟩
      · have hn := hb.1.1
        unfold namesOk at hn
        have := List.all_eq_true.1 (List.all_eq_true.1 (List.all_eq_true.1 hn p hp) t ht) q hq
        have hdst : isDst t q = true := by unfold isDst; rw [hd]; exact Nat.beq_refl t
        rw [hdst] at this
        simpa using this
      · have hn := hb.1.2
        unfold fltOk at hn
        have := List.all_eq_true.1 hn p hp
        rw [hf] at this
        simp only [Bool.not_true, Bool.false_or] at this
        have := List.all_eq_true.1 this q hq
        rw [hd] at this
        simp only [Bool.and_eq_true] at this
        obtain ⟨⟨k1, k2⟩, k3⟩ := this
        refine ⟨Nat.le_of_ble_eq_true k1, fun hm => ?_, fun hd' => ?_⟩
        · have : (tmpsOf all p.o).contains d = true := by simpa using hm
          rw [this] at k2
          simpa using k2
        · rw [hd'] at k3
          simpa [Nat.beq_eq] using k3
    · cases h
  · cases h
theorem planOf_some {all : List Oper} {pl : Plan} (h : planOf P all = some pl) : ∃ ps, PsOk P all ps ∧ P.follows .mixedOrders = true ∧ mkPlan ps (all.length + 1) 0 0 [] = some pl := by
  unfold planOf at h
  split at h
  · rename_i p hp
    injection h with h; subst h
    exact planBy_some hp
  · exact planBy_some h
end Go.Eb

/-
The closed evaluator: regions that draw their order.
-/
set_option linter.unusedVariables false
set_option linter.unusedSimpArgs false
namespace Go.Eb
variable {A : Type} {P : Program} {w0 : World} {g : Env} {F : Fr} {M : Mm} {n m : Nat} {a : Act} {w : World} {r : A} {ops : Array Oper} {ps : List Pre} {D must : Nat} {listed : Array Bool}

theorem same1_rep {a b : V} {cv : Value} (h : same1 a b = true) (ha : Rep g a cv) : Rep g b cv := by
  unfold same1 at h
  split at h
  · rename_i x y
    have : x = y := by simpa using h
    subst this; exact ha
  · simp only [Bool.and_eq_true, decide_eq_true_eq, eqI_eq] at h
    obtain ⟨rfl, rfl⟩ := h; exact ha
  · exact ha
  · simp only [Bool.and_eq_true, Nat.beq_eq] at h
    obtain ⟨rfl, rfl⟩ := h; exact ha
  · simp only [Nat.beq_eq] at h
    subst h; exact ha
  · exact ha
  · simp only [Bool.and_eq_true, Nat.beq_eq] at h
    obtain ⟨⟨⟨rfl, rfl⟩, rfl⟩, rfl⟩ := h; exact ha
  · exact ha
  · simp only [Nat.beq_eq] at h
    subst h; exact ha
  · exact ha
  · simp only [Nat.beq_eq] at h
    subst h; exact ha
  · exact ha
  · simp only [Bool.and_eq_true, Nat.beq_eq] at h
    obtain ⟨⟨⟨⟨rfl, rfl⟩, rfl⟩, rfl⟩, rfl⟩ := h; exact ha
  · exact ha
  · exact ha
  · simp only [Bool.and_eq_true, decide_eq_true_eq, eqI_eq] at h
    obtain ⟨⟨rfl, rfl⟩, rfl⟩ := h; exact ha
  · simp only [Bool.and_eq_true, Nat.beq_eq] at h
    obtain ⟨rfl, rfl⟩ := h; exact ha
  · cases h
theorem sameS_rep {a b : V} {cv : Value} (h : sameS a b = true) (ha : Rep g a cv) : Rep g b cv := by
  unfold sameS at h
  split at h
  · rw [eqL_eq, decide_eq_true_eq] at h
    subst h; exact ha
  · exact same1_rep h ha
theorem same1_c1 {a b : V} (h : same1 a b = true) : c1 a = true → c1 b = true := by
  unfold same1 at h
  split at h <;> first | (intro _; rfl) | cases h
theorem sameS_c1 {a b : V} (h : sameS a b = true) : c1 a = true → c1 b = true := by
  unfold sameS at h
  split at h
  · intro _; rfl
  · exact same1_c1 h
theorem sameL_rep : ∀ {a b : List V} {cv : List Value}, sameL a b = true → RepL g a cv → RepL g b cv ∧ ((∀ c ∈ a, c1 c = true) → ∀ c ∈ b, c1 c = true)
  | [], [], cv, h, ha => ⟨ha, fun h => h⟩
  | x :: a, y :: b, cv, h, ha => by
    rw [sameL, Bool.and_eq_true] at h
    obtain ⟨v, vs, rfl, hv, hvs⟩ := ha.inv
    obtain ⟨h1, h2⟩ := sameL_rep h.2 hvs
    refine ⟨.cons (sameS_rep h.1 hv) h1, fun hc c hcm => ?_⟩
    rcases List.mem_cons.1 hcm with rfl | hcm
    · exact sameS_c1 h.1 (hc _ (by simp))
    · exact h2 (fun c hc' => hc c (by simp [hc'])) c hcm
  | [], _ :: _, cv, h, ha => by simp [sameL] at h
  | _ :: _, [], cv, h, ha => by simp [sameL] at h
theorem sameA_rep {a b : V} {cv : Value} (h : sameA a b = true) (ha : Rep g a cv) : Rep g b cv := by
  unfold sameA at h
  split at h
  · cases ha with | agg hl h1 => obtain ⟨h2, h3⟩ := sameL_rep h hl; exact .agg h2 (h3 h1)
  · exact sameS_rep h ha
theorem sameLA_rep : ∀ {a b : List V} {cv : List Value}, sameLA a b = true → RepL g a cv → RepL g b cv
  | [], [], cv, h, ha => ha
  | x :: a, y :: b, cv, h, ha => by
    rw [sameLA, Bool.and_eq_true] at h
    obtain ⟨v, vs, rfl, hv, hvs⟩ := ha.inv
    exact .cons (sameA_rep h.1 hv) (sameLA_rep h.2 hvs)
  | [], _ :: _, cv, h, ha => by simp [sameLA] at h
  | _ :: _, [], cv, h, ha => by simp [sameLA] at h
theorem sameV_rep {a b : V} {cv : Value} (h : sameV a b = true) (ha : Rep g a cv) : Rep g b cv := by
  unfold sameV at h
  split at h
  · cases ha with | tup hl => exact .tup (sameLA_rep h hl)
  · rw [Bool.and_eq_true, Nat.beq_eq] at h
    obtain ⟨rfl, h⟩ := h
    cases ha with | clo hl => exact .clo (sameLA_rep h hl)
  · exact sameA_rep h ha

/-- Taken. -/
def Lst (listed : Array Bool) (i : Nat) : Prop := listed[i]? = some true
/-- The run's own order, against the plan's. -/
structure Inv (ops : Array Oper) (ps : List Pre) (listed : Array Bool) (D must : Nat) (g : Env) (F : Fr) (m : Nat) (a : Act) : Prop where
  size : listed.size = ops.size
  sub : ∀ i, Lst listed i → tb D i = true
  acts : ∀ p ∈ ps, tb D p.i = true → p.st = false → p.fl = false → Lst listed p.i
  down : Down ops.toList (Lst listed)
  must : ∀ i, tb must i = true → Lst listed i
  sz : m = a.tmps.size
  defers : a.defers = []
  lt : ∀ t v, F.get t = some v → t < m
  slot : ∀ t v, F.get t = some v → (∀ q ∈ ps, q.o.dst = some t → tb D q.i = true → Lst listed q.i) → Rep g v (a.tmps.getD t undef)

theorem Inv.mono {g' : Env} (h : Inv ops ps listed D must g F m a) (hs : Sub g g') : Inv ops ps listed D must g' F m a :=
  ⟨h.size, h.sub, h.acts, h.down, h.must, h.sz, h.defers, h.lt, fun t v h1 h2 => (h.slot t v h1 h2).mono hs⟩
theorem Inv.slots (h : Inv ops ps listed D must g F m a) (ok : PsOk P ops.toList ps) {p : Pre} (hp : p ∈ ps) (hb : ∀ e ∈ bindOn p.o, Lst listed e) : SlotR g F a (tmpsOf ops.toList p.o) := fun t ht v hv =>
  h.slot t v hv fun q hq hd hD => by
    rcases ok.names p hp t ht q hq hd with h1 | h1
    · obtain ⟨_, he⟩ := ok.each; exact (he p hp).a _ h.down hb _ h1
    · exact h.acts q hq hD h1.1 h1.2
theorem PsOk.at' {all : List Oper} (ok : PsOk P all ps) {p : Pre} (hp : p ∈ ps) : all[p.i]? = some p.o := by obtain ⟨_, he⟩ := ok.each; exact (he p hp).at'
theorem PsOk.same (ok : PsOk P ops.toList ps) {p q : Pre} (hp : p ∈ ps) (hq : q ∈ ps) (h : p.i = q.i) : q.o = p.o ∧ q.st = p.st ∧ q.fl = p.fl := by
  have h1 := ok.at' hq
  have h2 := ok.at' hp
  rw [← h, h2] at h1; injection h1 with h1
  obtain ⟨_, he⟩ := ok.each
  exact ⟨h1.symm, by rw [(he q hq).st, (he p hp).st, h1], by rw [(he q hq).fl, (he p hp).fl, h1]⟩
theorem PsOk.lt (ok : PsOk P ops.toList ps) {p : Pre} (hp : p ∈ ps) : p.i < ops.size := by
  have := ok.at' hp
  rw [Array.getElem?_toList] at this
  exact (Array.getElem?_eq_some_iff.1 this).1
/-- The plan goes on alone. -/
theorem Inv.ahead (h : Inv ops ps listed D must g F m a) (ok : PsOk P ops.toList ps) {p : Pre} (hp : p ∈ ps) (hst : p.st = true ∨ p.fl = true) (hD : tb D p.i = false) {F' : Fr} {v : V}
    (hF : F' = F ∨ ∃ d, p.o.dst = some d ∧ d < m ∧ F' = F.set d (some v)) : Inv ops ps listed (bt D p.i) must g F' m a := by
  have hnl : ¬ Lst listed p.i := fun hl => by rw [h.sub _ hl] at hD; cases hD
  refine ⟨h.size, fun i hi => by rw [bt_bit, h.sub i hi]; rfl, fun q hq hb hs hs' => ?_, h.down, h.must, h.sz, h.defers, fun t u hu => ?_, fun t u hu hall => ?_⟩
  · rw [bt_bit, Bool.or_eq_true, decide_eq_true_eq] at hb
    rcases hb with hb | hb
    · exact h.acts q hq hb hs hs'
    · rw [(ok.same hp hq hb).2.1] at hs
      rw [(ok.same hp hq hb).2.2] at hs'
      rcases hst with hst | hst
      · rw [hst] at hs; cases hs
      · rw [hst] at hs'; cases hs'
  · rcases hF with rfl | ⟨d, hd, hlt, rfl⟩
    · exact h.lt t u hu
    · rcases T.get_set hu with ⟨rfl, _⟩ | ⟨_, hu⟩
      · exact hlt
      · exact h.lt t u hu
  · have hold : ∀ t, (∀ q ∈ ps, q.o.dst = some t → tb (bt D p.i) q.i = true → Lst listed q.i) → (∀ q ∈ ps, q.o.dst = some t → tb D q.i = true → Lst listed q.i) := fun t hall q hq hd hb => hall q hq hd (by rw [bt_bit, hb]; rfl)
    rcases hF with rfl | ⟨d, hd, _, rfl⟩
    · exact h.slot t u hu (hold t hall)
    · rcases T.get_set hu with ⟨rfl, _⟩ | ⟨_, hu⟩
      · exact absurd (hall p hp hd (by rw [bt_bit]; simp)) hnl
      · exact h.slot t u hu (hold t hall)

theorem lst_set {i j : Nat} (hi : i < listed.size) : Lst (listed.setIfInBounds i true) j ↔ Lst listed j ∨ j = i := by
  unfold Lst
  rw [Array.getElem?_setIfInBounds]
  by_cases h : i = j
  · subst h; simp [hi]
  · rw [if_neg h]; exact ⟨.inl, fun e => e.resolve_right fun e => h e.symm⟩
theorem put_get {o : Option Tmp} {cv : Value} {t : Nat} (h : o ≠ some t) : (a.put o cv).tmps.getD t undef = a.tmps.getD t undef := by
  unfold Act.put
  split
  · rename_i d
    have hne : d ≠ t := fun e => h (by rw [e])
    simp [Array.getElem?_setIfInBounds, hne]
  · rfl
theorem put_size {o : Option Tmp} {cv : Value} : (a.put o cv).tmps.size = a.tmps.size ∧ (a.put o cv).defers = a.defers := by
  unfold Act.put
  split <;> simp
/-- The run takes what the plan has taken before. -/
theorem Inv.after (h : Inv ops ps listed D must g F m a) (ok : PsOk P ops.toList ps) {p : Pre} (hp : p ∈ ps) (hD : tb D p.i = true) (hb : ∀ e ∈ bindOn p.o, Lst listed e) {cv : Value}
    (hu : ∀ d, p.o.dst = some d → ∃ u, F.get d = some u ∧ Rep g u cv) : Inv ops ps (listed.setIfInBounds p.i true) D must g F m (a.put p.o.dst cv) := by
  have hi : p.i < listed.size := by rw [h.size]; exact ok.lt hp
  refine ⟨by rw [Array.size_setIfInBounds]; exact h.size, fun i hl => ?_, fun q hq hq1 hq2 hq3 => (lst_set hi).2 (.inl (h.acts q hq hq1 hq2 hq3)), fun i o ho hl e he => (lst_set hi).2 (.inl ?_), fun i hm => (lst_set hi).2 (.inl (h.must i hm)), by rw [put_size.1]; exact h.sz, put_size.2.trans h.defers, h.lt, fun t x hx hall => ?_⟩
  · rcases (lst_set hi).1 hl with hl | rfl
    · exact h.sub i hl
    · exact hD
  · rcases (lst_set hi).1 hl with hl | rfl
    · exact h.down i o ho hl e he
    · have := ok.at' hp
      rw [this] at ho; injection ho with ho; subst ho
      exact hb e he
  · by_cases hd : p.o.dst = some t
    · obtain ⟨u, h1, h2⟩ := hu t hd
      rw [hx] at h1; injection h1 with h1; subst h1
      have hlt : t < a.tmps.size := by rw [← h.sz]; exact h.lt t _ hx
      rw [hd]
      simpa [Act.put, Array.getElem?_setIfInBounds, hlt] using h2
    · rw [put_get hd]
      refine h.slot t x hx fun q hq hqd hqD => ?_
      rcases (lst_set hi).1 (hall q hq hqd hqD) with hl | hl
      · exact hl
      · exact absurd ((ok.same hp hq hl.symm).1 ▸ hqd) hd
/-- The run and the plan take one together. -/
theorem Inv.both (h : Inv ops ps listed D must g F m a) (ok : PsOk P ops.toList ps) {p : Pre} (hp : p ∈ ps) (hb : ∀ e ∈ bindOn p.o, Lst listed e) {v : V} {cv : Value} (hv : Rep g v cv) {K : Fr → Option A} (hk : putK m F p.o.dst v K = some r) :
    ∃ F', K F' = some r ∧ Inv ops ps (listed.setIfInBounds p.i true) (bt D p.i) (Nat.lor (bt must p.i) p.a) g F' m (a.put p.o.dst cv) := by
  have hi : p.i < listed.size := by rw [h.size]; exact ok.lt hp
  have hl : ∀ j, Lst (listed.setIfInBounds p.i true) j ↔ Lst listed j ∨ j = p.i := fun j => lst_set hi
  have hdown : Down ops.toList (Lst (listed.setIfInBounds p.i true)) := fun i o ho hl' e he => (hl _).2 (.inl (by
    rcases (hl _).1 hl' with hl' | rfl
    · exact h.down i o ho hl' e he
    · have := ok.at' hp
      rw [this] at ho; injection ho with ho; subst ho
      exact hb e he))
  have base : ∀ F', (∀ t v, F'.get t = some v → t < m) → (∀ t x, F'.get t = some x → (∀ q ∈ ps, q.o.dst = some t → tb (bt D p.i) q.i = true → Lst (listed.setIfInBounds p.i true) q.i) → Rep g x ((a.put p.o.dst cv).tmps.getD t undef)) →
      Inv ops ps (listed.setIfInBounds p.i true) (bt D p.i) (Nat.lor (bt must p.i) p.a) g F' m (a.put p.o.dst cv) := fun F' hlt hsl => by
    refine ⟨by rw [Array.size_setIfInBounds]; exact h.size, fun i hl' => ?_, fun q hq hq1 hq2 hq3 => (hl _).2 ?_, hdown, fun i hm => ?_, by rw [put_size.1]; exact h.sz, put_size.2.trans h.defers, hlt, hsl⟩
    · rw [bt_bit, Bool.or_eq_true, decide_eq_true_eq]
      rcases (hl _).1 hl' with hl' | rfl
      · exact .inl (h.sub i hl')
      · exact .inr rfl
    · rw [bt_bit, Bool.or_eq_true, decide_eq_true_eq] at hq1
      rcases hq1 with hq1 | hq1
      · exact .inl (h.acts q hq hq1 hq2 hq3)
      · exact .inr hq1.symm
    · rw [lor_bit, bt_bit, Bool.or_eq_true, Bool.or_eq_true, decide_eq_true_eq] at hm
      rcases hm with (hm | rfl) | hm
      · exact (hl _).2 (.inl (h.must i hm))
      · exact (hl _).2 (.inr rfl)
      · obtain ⟨_, he⟩ := ok.each; exact (hl _).2 (.inl ((he p hp).a _ h.down hb _ hm))
  have old : ∀ t, p.o.dst ≠ some t → (∀ q ∈ ps, q.o.dst = some t → tb (bt D p.i) q.i = true → Lst (listed.setIfInBounds p.i true) q.i) → (∀ q ∈ ps, q.o.dst = some t → tb D q.i = true → Lst listed q.i) := fun t hd hall q hq hqd hqD => by
    rcases (hl _).1 (hall q hq hqd (by rw [bt_bit, hqD]; rfl)) with hl' | hl'
    · exact hl'
    · exact absurd ((ok.same hp hq hl'.symm).1 ▸ hqd) hd
  rcases putK_some hk with ⟨hd, hk⟩ | ⟨d, hd, hlt, hk⟩
  · refine ⟨F, hk, base F h.lt fun t x hx hall => ?_⟩
    rw [put_get (by rw [hd]; simp)]
    exact h.slot t x hx (old t (by rw [hd]; simp) hall)
  · refine ⟨_, hk, base _ (fun t x hx => ?_) fun t x hx hall => ?_⟩
    · rcases T.get_set hx with ⟨rfl, _⟩ | ⟨_, hx⟩
      · exact hlt
      · exact h.lt t x hx
    · rcases T.get_set hx with ⟨rfl, e⟩ | ⟨hne, hx⟩
      · injection e with e; subst e
        have hlt : t < a.tmps.size := by rw [← h.sz]; exact hlt
        rw [hd]
        simpa [Act.put, Array.getElem?_setIfInBounds, hlt] using hv
      · have hnd : p.o.dst ≠ some t := by rw [hd]; intro e; injection e with e; exact hne e.symm
        rw [put_get hnd]
        exact h.slot t x hx (old t hnd hall)
end Go.Eb

/-
The closed evaluator: new memory that is made out of order.
-/
set_option linter.unusedVariables false
set_option linter.unusedSimpArgs false
namespace Go.Eb
open Go.Ev (szT byT aggO offT fszT TK kindT elemK zok LK leavesT kind_slice kind_array kind_str kind_int run_sizeOf szT_info zok_is parts_toArray)
variable {A : Type} {P : Program} {w0 : World} {g : Env} {F : Fr} {M : Mm} {n m : Nat} {a : Act} {w : World} {r : A} {ops : Array Oper} {ps : List Pre} {D must : Nat} {listed : Array Bool}

theorem T.get_setD_is {α : Type} : ∀ (d : Nat) (t : T α) (k j : Nat) (v : Option α), k + 2 ≤ 2 ^ d → (T.setD d t k v).get j = if j = k then v else t.get j
  | 0, t, k, j, v, h => by simp at h
  | d + 1, .e, k, j, v, h => by
    rw [Nat.pow_succ] at h
    rw [T.setD]
    by_cases hk : k = 0
    · rw [if_pos hk, T.get_n, hk]
      by_cases hj : j = 0
      · simp [hj]
      · rw [if_neg hj, if_neg hj]; split <;> rfl
    · rw [if_neg hk]
      by_cases hk1 : k % 2 = 1
      · rw [if_pos hk1, T.get_n]
        by_cases hj : j = 0
        · rw [if_pos hj, if_neg (by omega)]; rfl
        · rw [if_neg hj]
          by_cases hj1 : j % 2 = 1
          · rw [if_pos hj1, T.get_setD_is d .e _ _ _ (by omega)]
            by_cases e : j = k
            · rw [if_pos (by rw [e]), if_pos e]
            · rw [if_neg (by omega), if_neg e]; rfl
          · rw [if_neg hj1, if_neg (by omega)]; rfl
      · rw [if_neg hk1, T.get_n]
        by_cases hj : j = 0
        · rw [if_pos hj, if_neg (by omega)]; rfl
        · rw [if_neg hj]
          by_cases hj1 : j % 2 = 1
          · rw [if_pos hj1, if_neg (by omega)]; rfl
          · rw [if_neg hj1, T.get_setD_is d .e _ _ _ (by omega)]
            by_cases e : j = k
            · rw [if_pos (by rw [e]), if_pos e]
            · rw [if_neg (by omega), if_neg e]; rfl
  | d + 1, .n l u q, k, j, v, h => by
    rw [Nat.pow_succ] at h
    rw [T.setD]
    by_cases hk : k = 0
    · rw [if_pos hk, T.get_n, T.get_n, hk]
      by_cases hj : j = 0
      · simp [hj]
      · rw [if_neg hj, if_neg hj]; rw [if_neg hj]
    · rw [if_neg hk]
      by_cases hk1 : k % 2 = 1
      · rw [if_pos hk1, T.get_n, T.get_n]
        by_cases hj : j = 0
        · rw [if_pos hj, if_neg (by omega), if_pos hj]
        · rw [if_neg hj, if_neg hj]
          by_cases hj1 : j % 2 = 1
          · rw [if_pos hj1, if_pos hj1, T.get_setD_is d l _ _ _ (by omega)]
            by_cases e : j = k
            · rw [if_pos (by rw [e]), if_pos e]
            · rw [if_neg (by omega), if_neg e]
          · rw [if_neg hj1, if_neg hj1, if_neg (by omega)]
      · rw [if_neg hk1, T.get_n, T.get_n]
        by_cases hj : j = 0
        · rw [if_pos hj, if_neg (by omega), if_pos hj]
        · rw [if_neg hj, if_neg hj]
          by_cases hj1 : j % 2 = 1
          · rw [if_pos hj1, if_pos hj1, if_neg (by omega)]
          · rw [if_neg hj1, if_neg hj1, T.get_setD_is d q _ _ _ (by omega)]
            by_cases e : j = k
            · rw [if_pos (by rw [e]), if_pos e]
            · rw [if_neg (by omega), if_neg e]
theorem T.get_set_is {α : Type} {t : T α} {k j : Nat} {v : Option α} (h : k ≤ 1000000) : (t.set k v).get j = if j = k then v else t.get j :=
  T.get_setD_is 64 t k j v (Nat.le_trans (show k + 2 ≤ 1000002 by omega) (by decide))

theorem fillK_congr {F F' : Fr} {pl : Nat → Option (Nat × Nat)} {q : Nat} {K : T V → Option A} : ∀ {ps : List (Nat × Operand)} {c : T V}, (∀ x ∈ ps.map (·.2), opnd F x = opnd F' x) → fillK F pl q c ps K = fillK F' pl q c ps K
  | [], c, _ => rfl
  | p :: ps, c, h => by
    show ob (opnd F p.2) (fun v => ob (cellsO v) fun vs => ob (pl p.1) fun q' => bb (Nat.beq vs.length q'.2 && Nat.ble (q'.1 + q'.2) q) (writeK c q'.1 vs fun c => fillK F pl q c ps K)) =
      ob (opnd F' p.2) (fun v => ob (cellsO v) fun vs => ob (pl p.1) fun q' => bb (Nat.beq vs.length q'.2 && Nat.ble (q'.1 + q'.2) q) (writeK c q'.1 vs fun c => fillK F' pl q c ps K))
    rw [h p.2 (by simp)]
    have : (fun c => fillK F pl q c ps K) = fun c => fillK F' pl q c ps K := funext fun c => fillK_congr fun x hx => h x (by simp at hx ⊢; exact .inr hx)
    simp only [this]
theorem opnd_congr {F F' : Fr} {x : Operand} (h : ∀ t, x = .tmp t → F.get t = F'.get t) : opnd F x = opnd F' x := by
  cases x with
  | tmp t => exact h t rfl
  | _ => rfl
theorem fltD_congr {F F' : Fr} {id : Nat} {op : Op} (h : ∀ t, Operand.tmp t ∈ op.operands.toList → F.get t = F'.get t) : fltD P F id op = fltD P F' id op := by
  unfold fltD
  split
  · rfl
  · rename_i x
    rw [opnd_congr (F := F) (F' := F') fun t ht => h t (by simp [Op.operands, ht])]
  · rename_i t len ps
    split
    · congr 1
      funext
      congr 1
      funext z
      congr 1
      funext zs
      congr 1
      funext c
      exact fillK_congr fun x hx => opnd_congr fun t ht => h t (by simp [Op.operands]; subst ht; simpa using hx)
    · rfl
  · rfl

theorem bsl_run {K : T V → Option A} {t e : TypeId} {len : Nat} {ps : List (Nat × Operand)} (hk : kindT P t = .slice e) (hzk : zok P e = true) (hb : len * szT P e ≤ 16777216) (hF : EvR g F a (ps.map (·.2))) {zv : V} {zs : List V} (hzv : zeroV P e = some zv) (hzs : cellsO zv = some zs)
    (h : writeK .e 0 (List.replicate len zs).flatten (fun c => fillK F (placeR (szT P e)) (len * szT P e) c ps K) = some r) :
    ∃ c' cells', K c' = some r ∧ Cells g c' cells'.toList ∧ cells'.size = len * szT P e ∧ 0 < szT P e ∧ (Instr.buildSlice t len (ps.map fun p => (p.1, a.eval p.2)).toArray).run P w = .ok (.slice (some ⟨w.heap.size, 0, none⟩) len len) (w.alloc (.cells cells' e)) := by
  have hu := kind_slice hk
  replace h := writeK_some h; obtain ⟨c, hc, h⟩ := h
  obtain ⟨i, z, hi, hz, hzsz, hipos, hisz, hiby⟩ := zok_is hzk
  obtain ⟨i', z', hi', hz', hrz⟩ := zeroV_rep (P := P) (g := g) hzv
  obtain rfl : i = i' := by rw [hi] at hi'; injection hi'
  obtain rfl : z = z' := by rw [hz] at hz'; injection hz'
  obtain ⟨hr, h1⟩ := cellsO_rep hzs hrz
  have hzl : zs.length = z.cells.size := by rw [hr.length]; exact Array.length_toList
  have hzr := zeros_rep hr len (by omega)
  have hsz : szT P e = z.cells.size := by rw [hzsz, hisz]
  obtain ⟨c', cells', h2, h3, h4, h5⟩ := fillK_some (place := placeR (szT P e)) (place' := fun i => some (i * szT P e, szT P e)) (fun f q hq => hq) (cells := (Array.range (len * z.cells.size)).map (z.cells[· % z.cells.size]!)) hF h (fun j u hj => by
    rcases hc j u hj with ⟨_, g2⟩ | ⟨_, g2⟩
    · rw [Nat.sub_zero] at g2
      obtain ⟨cv, hcv, hr'⟩ := hzr.get g2
      exact ⟨zeros_ones h1 len _ (List.mem_of_getElem? g2), cv, hcv, hr'⟩
    · simp [T.get_e] at g2) (by simp [hsz])
  have hnb : ¬ (len * szT P e > 2 ^ 24) := by omega
  refine ⟨c', cells', h2, h4, h5, by omega, ?_⟩
  simp only [Instr.buildSlice, Sem.run_bind, run_underlying hu, Result.andThen_ok, run_sizeOf hi, hisz, if_neg hnb, Sem.run_ite]
  by_cases h0 : len * szT P e = 0
  · have hl0 : len = 0 := mul0 h0 (by omega)
    subst hl0
    simp only [Nat.zero_mul, if_true, Sem.run_pure, Result.andThen_ok] at h3 ⊢
    have : ((Array.range 0).map fun x => (#[] : Array Value)[x % (#[] : Array Value).size]!) = ((Array.range 0).map (z.cells[· % z.cells.size]!)) := by simp
    rw [this]
    simp only [List.toList_toArray, h3]
    simp [newRow]
  · simp only [h0, if_false, zeroValue, typeInfo, Sem.run_bind, run_program, Result.andThen_ok, hi, Sem.run_pure, hz]
    rw [hsz] at h3 ⊢
    simp only [List.toList_toArray, h3]
    simp [newRow]

/-- New memory is made. -/
theorem flt_run (hM : RM w0 g M n w) {o : Oper} (hF : EvR g F a o.op.operands.toList) {id : Nat} {v : V} {b : Blk} (h : fltD P F id o.op = some (v, b)) :
    ∃ cells ty cv, (execOp a.eval o).run P w = .ok (.value cv) (w.alloc (.cells cells ty)) ∧ ∀ g2 : Env, Sub g g2 → g2 id = some ⟨w.heap.size, 0, cells.size⟩ → Rep g2 v cv ∧ BlkRep g2 (w.heap.push (.cells cells ty)) ⟨w.heap.size, 0, cells.size⟩ b := by
  have blk : ∀ {g2 : Env} {cells : Array Value} {ty : TypeId} {q : Nat} {c : T V}, q = cells.size → (∀ j u, c.get j = some u → j < q ∧ c1 u = true ∧ ∃ cv, cells[j]? = some cv ∧ Rep g2 u cv) →
      BlkRep g2 (w.heap.push (.cells cells ty)) ⟨w.heap.size, 0, cells.size⟩ (.cells q true c) := fun {g2 cells ty q c} hq hc =>
    ⟨cells, ty, (0, 0), by simp, rfl, fun _ _ hk => absurd hk.2 (Nat.not_lt_zero _), by show 0 + q ≤ cells.size; omega, fun _ => by show 0 + q = cells.size; omega, fun j u hj => by
      obtain ⟨h1, h2, cv, h3, h4⟩ := hc j u hj
      exact ⟨h1, h2, cv, by rw [Nat.zero_add]; exact h3, h4⟩⟩
  have box : ∀ {z : V} {cz : Value} {ty : TypeId} {vs : List V} {c : T V}, cellsO z = some vs → Rep g z cz → (∀ (j : Nat) (u : V), c.get j = some u → vs[j]? = some u) → ∀ g2 : Env, Sub g g2 → g2 id = some ⟨w.heap.size, 0, cz.cells.size⟩ →
      Rep g2 (.ptr id 0) (.pointer (some ⟨w.heap.size, 0, none⟩)) ∧ BlkRep g2 (w.heap.push (.cells cz.cells ty)) ⟨w.heap.size, 0, cz.cells.size⟩ (.cells vs.length true c) := fun {z cz ty vs c} hvs hz hc g2 hs hg => by
    obtain ⟨hr, h1⟩ := cellsO_rep hvs hz
    refine ⟨.ptr (x := ⟨w.heap.size, 0, cz.cells.size⟩) hg, blk (hr.length.trans Array.length_toList) fun j u hj => ?_⟩
    have hj := hc j u hj
    obtain ⟨cv, h2, h3⟩ := hr.get hj
    exact ⟨(List.getElem?_eq_some_iff.1 hj).1, h1 _ (List.mem_of_getElem? hj), cv, by rw [← Array.getElem?_toList]; exact h2, h3.mono hs⟩
  have wk : ∀ {vs : List V} {K : T V → Option (V × Blk)} {r : V × Blk}, writeK .e 0 vs K = some r → ∃ c : T V, K c = some r ∧ ∀ (j : Nat) (u : V), c.get j = some u → vs[j]? = some u := fun {vs K r} h => by
    obtain ⟨c, hc, h⟩ := writeK_some h
    refine ⟨c, h, fun j u hj => ?_⟩
    rcases hc j u hj with ⟨_, g2⟩ | ⟨_, g2⟩
    · rwa [Nat.sub_zero] at g2
    · simp [T.get_e] at g2
  unfold fltD at h
  split at h
  · rename_i e ho
    replace h := ob_some h; obtain ⟨z, hz, h⟩ := h
    replace h := ob_some h; obtain ⟨vs, hvs, h⟩ := h
    obtain ⟨c, h, hc⟩ := wk h
    injection h with h; injection h with h1 h2; subst h1 h2
    obtain ⟨i, zv, hi, hiz, hr⟩ := zeroV_rep (P := P) (g := g) hz
    refine ⟨zv.cells, e, .pointer (some ⟨w.heap.size, 0, none⟩), ?_, box hvs hr hc⟩
    simp only [execOp, ho]
    exact Ev.lift_v (by simp [Instr.alloc, zeroValue, typeInfo, hi, hiz, newVar, newRow])
  · rename_i t x ho
    replace h := ob_some h; obtain ⟨z, hz, h⟩ := h
    replace h := ob_some h; obtain ⟨vs, hvs, h⟩ := h
    obtain ⟨c, h, hc⟩ := wk h
    injection h with h; injection h with h1 h2; subst h1 h2
    refine ⟨(a.eval x).cells, t, .pointer (some ⟨w.heap.size, 0, none⟩), ?_, box hvs (hF x (by rw [ho]; simp [Op.operands]) _ hz) hc⟩
    simp only [execOp, ho]
    exact Ev.lift_v (by simp [Instr.box, newVar, newRow])
  · rename_i t len ps ho
    split at h
    · rename_i e hk
      have hu := kind_slice hk
      replace h := bb_some h; obtain ⟨hb, h⟩ := h
      rw [Bool.and_eq_true] at hb
      obtain ⟨hzk, hb⟩ := hb
      have hb := Nat.le_of_ble_eq_true hb
      replace h := ob_some h; obtain ⟨zv, hzv, h⟩ := h
      replace h := ob_some h; obtain ⟨zs, hzs, h⟩ := h
      obtain ⟨c, cells, h, hc, hsz, hpos, hrun⟩ := bsl_run (a := a) (w := w) hk hzk hb (hF.sub (by rw [ho]; simp [Op.operands])) hzv hzs h
      injection h with h; injection h with h1 h2; subst h1 h2
      refine ⟨cells, e, .slice (some ⟨w.heap.size, 0, none⟩) len len, ?_, fun g2 hs hg => ⟨?_, blk hsz.symm fun j u hj => ?_⟩⟩
      · simp only [execOp, ho]
        rw [parts_toArray] at hrun
        exact Ev.lift_v hrun
      · exact .sl (x := ⟨w.heap.size, 0, cells.size⟩) hg hpos (Nat.le_refl _) (fun _ => rfl) (by show 0 + 0 + len * szT P e = cells.size; omega)
      · obtain ⟨h1, cv, h2, h3⟩ := hc j u hj
        have hjl : j < cells.size := by have := (List.getElem?_eq_some_iff.1 h2).1; rwa [Array.length_toList] at this
        exact ⟨by omega, h1, cv, by rw [← Array.getElem?_toList]; exact h2, h3.mono hs⟩
    · cases h
  · cases h

def putG (g : Env) (id : Nat) (x : Lc) : Env := ⟨fun i => if i = id then some x else g i, g.top⟩
theorem putG_new {id : Nat} {x : Lc} : putG g id x id = some x := by simp [putG]
theorem putG_other {id i : Nat} {x : Lc} (h : i ≠ id) : putG g id x i = g i := by simp [putG, h]
theorem putG_sub {id : Nat} {x : Lc} (h : g id = none) : Sub g (putG g id x) := fun i y hy => by
  by_cases e : i = id
  · subst e; rw [h] at hy; cases hy
  · rw [putG_other e]; exact hy

/-- New memory that is not seen yet. -/
structure Park (n0 : Nat) (pd : List (Nat × Blk)) (g : Env) (M : Mm) (w : World) (base : Nat) (S : Nat → Prop) : Prop where
  is : ∀ i, S i → ∃ x b, findB i pd = some b ∧ g (n0 + i) = some x ∧ BlkRep g w.heap x b ∧ base ≤ x.blk ∧ ∀ id c y, M.get id = some c → g id = some y → y.blk ≠ x.blk
  apart : ∀ i j x y, S i → S j → g (n0 + i) = some x → g (n0 + j) = some y → x.blk = y.blk → i = j
theorem Park.less {n0 base : Nat} {pd : List (Nat × Blk)} {S S' : Nat → Prop} (h : Park n0 pd g M w base S) (hs : ∀ i, S' i → S i) : Park n0 pd g M w base S' :=
  ⟨fun i hi => h.is i (hs i hi), fun i j x y hi hj => h.apart i j x y (hs i hi) (hs j hj)⟩
/-- Another operation goes by. -/
theorem Park.mv {n0 base : Nat} {pd : List (Nat × Blk)} {S : Nat → Prop} {g' : Env} {M' : Mm} {w' : World} (h : Park n0 pd g M w base S) (hM : RM w0 g M n w) (hm : Mv g M w g' M' w') (ht : ∀ i, S i → n0 + i < g.top) : Park n0 pd g' M' w' base S := by
  refine ⟨fun i hi => ?_, fun i j x y hi hj hx hy => ?_⟩
  · obtain ⟨x, b, h1, h2, h3, h4, h5⟩ := h.is i hi
    refine ⟨x, b, h1, hm.ext _ _ h2, h3.ext hm.ext (hm.keep _ (hM.lt _ _ h2).2.2 fun id y c hc hy => h5 id c y hc hy), h4, fun id c y hc hy e => ?_⟩
    obtain ⟨id0, x0, c0, k1, k2, k3⟩ := hm.img id y c hc hy (by rw [e]; exact (hM.lt _ _ h2).2.2)
    exact h5 id0 c0 x0 k1 k2 (k3.trans e)
  · rw [hm.low _ (ht i hi)] at hx
    rw [hm.low _ (ht j hj)] at hy
    exact h.apart i j x y hi hj hx hy
/-- It is seen. -/
theorem reveal_some {n0 base : Nat} {pd : List (Nat × Blk)} {g0 : Env} {M0 : Mm} {wr : World} : ∀ {rv : List Nat} {S : Nat → Prop} {M : Mm} {K : Mm → Option A}, revealK n0 pd rv M K = some r → rv.Nodup → (∀ i ∈ rv, S i) → Park n0 pd g M w base S → RM w0 g M n w → Mv g0 M0 wr g M w → base = wr.heap.size →
    ∃ M', K M' = some r ∧ RM w0 g M' n w ∧ Mv g0 M0 wr g M' w ∧ Park n0 pd g M' w base (fun i => S i ∧ i ∉ rv)
  | [], S, M, K, h, _, _, hp, hM, hm, _ => ⟨M, h, hM, hm, hp.less fun i hi => hi.1⟩
  | i :: rv, S, M, K, h, hnd, hS, hp, hM, hm, hb => by
    have h : ob (findB i pd) (fun b => T.setK 64 M (n0 + i) (some b) fun M => revealK n0 pd rv M K) = some r := h
    replace h := ob_some h; obtain ⟨b, hfb, h⟩ := h
    rw [T.setK_set] at h
    obtain ⟨x, b', h1, h2, h3, h4, h5⟩ := hp.is i (hS i (by simp))
    obtain rfl : b' = b := by rw [hfb] at h1; injection h1 with h1; exact h1.symm
    have key : ∀ j c, (M.set (n0 + i) (some b')).get j = some c → (j = n0 + i ∧ c = b') ∨ (j ≠ n0 + i ∧ M.get j = some c) := fun j c hj => by
      rcases T.get_set hj with ⟨k1, k2⟩ | k
      · injection k2 with k2; exact .inl ⟨k1, k2.symm⟩
      · exact .inr k
    have hM' : RM w0 g (M.set (n0 + i) (some b')) n w := by
      refine ⟨fun j c hj => ?_, fun j k y z c d hj hk hy hz e => ?_, hM.lt, hM.size, hM.old, hM.tape, hM.os, hM.output, hM.top⟩
      · rcases key j c hj with ⟨rfl, rfl⟩ | ⟨_, hj⟩
        · exact ⟨x, h2, h3⟩
        · exact hM.rep j c hj
      · rcases key j c hj with ⟨e1, e2⟩ | ⟨hne, hj'⟩ <;> rcases key k d hk with ⟨e3, e4⟩ | ⟨hne', hk'⟩
        · rw [e1, e3]
        · obtain rfl : x = y := by rw [e1, h2] at hy; injection hy
          exact absurd e.symm (h5 k d z hk' hz)
        · obtain rfl : x = z := by rw [e3, h2] at hz; injection hz
          exact absurd e (h5 j c y hj' hy)
        · exact hM.inj j k y z c d hj' hk' hy hz e
    have hm' : Mv g0 M0 wr g (M.set (n0 + i) (some b')) w := by
      refine ⟨hm.ext, hm.size, hm.keep, fun id y c hc hy hlt => ?_, hm.low, hm.up⟩
      rcases key id c hc with ⟨rfl, rfl⟩ | ⟨_, hc⟩
      · obtain rfl : x = y := by rw [h2] at hy; injection hy
        omega
      · exact hm.img id y c hc hy hlt
    have hp' : Park n0 pd g (M.set (n0 + i) (some b')) w base (fun j => S j ∧ j ≠ i) := by
      refine ⟨fun j hj => ?_, fun j k y z hj hk => hp.apart j k y z hj.1 hk.1⟩
      obtain ⟨y, c, k1, k2, k3, k4, k5⟩ := hp.is j hj.1
      refine ⟨y, c, k1, k2, k3, k4, fun id d z hd hz e => ?_⟩
      rcases key id d hd with ⟨rfl, rfl⟩ | ⟨_, hd⟩
      · exact hj.2 (hp.apart j i y z hj.1 (hS i (by simp)) k2 hz e.symm)
      · exact k5 id d z hd hz e
    rw [List.nodup_cons] at hnd
    obtain ⟨M', k1, k2, k3, k4⟩ := reveal_some h hnd.2 (fun j hj => ⟨hS j (by simp [hj]), fun e => hnd.1 (e ▸ hj)⟩) hp' hM' hm' hb
    exact ⟨M', k1, k2, k3, k4.less fun j hj => ⟨⟨hj.1, fun e => hj.2 (by simp [e])⟩, fun e => hj.2 (by simp [e])⟩⟩
/-- It is made, and set aside. -/
theorem park_new {n0 base i : Nat} {pd : List (Nat × Blk)} {g0 : Env} {M0 : Mm} {wr : World} {S : Nat → Prop} {cells : Array Value} {ty : TypeId} {b : Blk} (hM : RM w0 g M n w) (hm : Mv g0 M0 wr g M w) (hp : Park n0 pd g M w base S) (hb : base ≤ w.heap.size) (hg : g (n0 + i) = none) (hi : n0 + i < g.top) (h0 : g0.top ≤ n0)
    (hfb : findB i pd = some b) (hblk : BlkRep (putG g (n0 + i) ⟨w.heap.size, 0, cells.size⟩) (w.heap.push (.cells cells ty)) ⟨w.heap.size, 0, cells.size⟩ b) :
    RM w0 (putG g (n0 + i) ⟨w.heap.size, 0, cells.size⟩) M n (w.alloc (.cells cells ty)) ∧ Mv g0 M0 wr (putG g (n0 + i) ⟨w.heap.size, 0, cells.size⟩) M (w.alloc (.cells cells ty)) ∧
      Park n0 pd (putG g (n0 + i) ⟨w.heap.size, 0, cells.size⟩) M (w.alloc (.cells cells ty)) base (fun j => S j ∨ j = i) := by
  have hs : Sub g (putG g (n0 + i) ⟨w.heap.size, 0, cells.size⟩) := putG_sub hg
  have hheap : (w.alloc (.cells cells ty)).heap = w.heap.push (.cells cells ty) := rfl
  have hlt : ∀ k, k < w.heap.size → (w.alloc (.cells cells ty)).heap[k]? = w.heap[k]? := fun k hk => by rw [hheap, Array.getElem?_push_lt hk, Array.getElem?_eq_getElem hk]
  have hne : ∀ id c, M.get id = some c → id ≠ n0 + i := fun id c hc e => by
    obtain ⟨y, hy, _⟩ := hM.rep id c hc
    rw [e, hg] at hy; cases hy
  have gold : ∀ id c y, M.get id = some c → putG g (n0 + i) ⟨w.heap.size, 0, cells.size⟩ id = some y → g id = some y := fun id c y hc hy => by rw [putG_other (hne id c hc)] at hy; exact hy
  have hSne : ∀ j, S j → j ≠ i := fun j hj e => by obtain ⟨x, _, _, h2, _⟩ := hp.is j hj; rw [e, hg] at h2; cases h2
  refine ⟨⟨fun id c hc => ?_, fun j k y z c d hj hk hy hz e => ?_, fun id y hy => ?_, ?_, fun k hk => ?_, hM.tape, hM.os, hM.output, hM.top⟩, ⟨hm.ext.trans hs, ?_, fun k hk hn => ?_, fun id y c hc hy hl => ?_, fun id hid => ?_, hm.up⟩, ⟨fun j hj => ?_, fun j k y z hj hk hy hz e => ?_⟩⟩
  · obtain ⟨y, hy, hr⟩ := hM.rep id c hc
    exact ⟨y, hs _ _ hy, hr.ext hs (hlt _ (hM.lt _ _ hy).2.2)⟩
  · exact hM.inj j k y z c d hj hk (gold _ _ _ hj hy) (gold _ _ _ hk hz) e
  · rw [hheap, Array.size_push]
    by_cases e : id = n0 + i
    · subst e
      rw [putG_new] at hy; injection hy with hy; subst hy
      exact ⟨by have := hM.top; omega, hM.size, Nat.lt_succ_self _⟩
    · rw [putG_other e] at hy
      have := hM.lt id y hy
      exact ⟨this.1, this.2.1, by omega⟩
  · rw [hheap, Array.size_push]; have := hM.size; omega
  · rw [hlt k (Nat.lt_of_lt_of_le hk hM.size)]; exact hM.old k hk
  · rw [hheap, Array.size_push]; have := hm.size; omega
  · rw [hlt k (Nat.lt_of_lt_of_le hk hm.size)]; exact hm.keep k hk hn
  · exact hm.img id y c hc (gold _ _ _ hc hy) hl
  · rw [putG_other (by omega)]; exact hm.low id hid
  · rcases hj with hj | rfl
    · obtain ⟨x, c, k1, k2, k3, k4, k5⟩ := hp.is j hj
      refine ⟨x, c, k1, hs _ _ k2, k3.ext hs (hlt _ (hM.lt _ _ k2).2.2), k4, fun id d z hd hz => k5 id d z hd (gold _ _ _ hd hz)⟩
    · exact ⟨_, b, hfb, putG_new, hblk, hb, fun id d z hd hz => by
        have := (hM.lt _ _ (gold _ _ _ hd hz)).2.2
        show z.blk ≠ w.heap.size
        omega⟩
  · have one : ∀ k, S k → ∀ z, putG g (n0 + i) ⟨w.heap.size, 0, cells.size⟩ (n0 + k) = some z → z.blk < w.heap.size ∧ g (n0 + k) = some z := fun k hk z hz => by
      rw [putG_other (by have := hSne k hk; omega)] at hz
      exact ⟨(hM.lt _ _ hz).2.2, hz⟩
    rcases hj with hj | rfl <;> rcases hk with hk | hk
    · exact hp.apart j k y z hj hk (one j hj y hy).2 (one k hk z hz).2 e
    · subst hk
      rw [putG_new] at hz; injection hz with hz; subst hz
      have := (one j hj y hy).1
      exact absurd e (by show y.blk ≠ w.heap.size; omega)
    · rw [putG_new] at hy; injection hy with hy; subst hy
      have := (one k hk z hz).1
      exact absurd e (by show w.heap.size ≠ z.blk; omega)
    · exact hk.symm
end Go.Eb

/-
The closed evaluator: regions that draw their order, run.
-/
set_option linter.unusedVariables false
set_option linter.unusedSimpArgs false
namespace Go.Eb
variable {A : Type} {P : Program} {w0 : World} {g : Env} {F : Fr} {M : Mm} {n m : Nat} {a : Act} {w : World} {r : A} {ops : Array Oper} {ps : List Pre} {D must : Nat} {listed : Array Bool}

theorem ready_iff (hs : listed.size = ops.size) {i : Nat} : i ∈ Region.ready .any ops listed ↔ ∃ o, ops[i]? = some o ∧ ¬ Lst listed i ∧ ∀ e ∈ bindOn o, Lst listed e := by
  unfold Region.ready bindOn Lst
  rw [List.mem_filter, List.mem_range]
  constructor
  · rintro ⟨hi, h⟩
    have ho : ops[i]? = some ops[i] := Array.getElem?_eq_getElem hi
    have hl : listed[i]? = some listed[i] := Array.getElem?_eq_getElem (by omega)
    rw [ho] at h
    simp only [Bool.and_eq_true, Option.map_some, Option.getD_some, Array.all_eq_true_iff_forall_mem, Bool.or_eq_true, Array.getD_eq_getD_getElem?] at h
    refine ⟨_, ho, ?_, fun e he => ?_⟩
    · have := h.1
      rw [hl] at this ⊢
      simpa using this
    · obtain ⟨x, hx, rfl⟩ := List.mem_map.1 he
      rw [List.mem_filter] at hx
      have := h.2 x (by simpa using hx.1)
      rw [hx.2] at this
      simp only [Bool.not_true, Bool.false_eq_true, false_or] at this
      cases hl : listed[x.on]? with
      | none => rw [hl] at this; cases this
      | some b => rw [hl] at this; have : b = true := this; rw [this]
  · rintro ⟨o, ho, hl, hb⟩
    have hi : i < ops.size := (Array.getElem?_eq_some_iff.1 ho).1
    have hl' : listed[i]? = some listed[i] := Array.getElem?_eq_getElem (by omega)
    refine ⟨hi, ?_⟩
    rw [ho]
    simp only [Bool.and_eq_true, Option.map_some, Option.getD_some, Array.all_eq_true_iff_forall_mem, Bool.or_eq_true, Array.getD_eq_getD_getElem?]
    refine ⟨?_, fun x hx => ?_⟩
    · rw [hl'] at hl ⊢
      simpa using hl
    · cases hbx : Region.binds .any x with
      | false => exact .inl rfl
      | true => exact .inr (by rw [hb x.on (List.mem_map.2 ⟨x, List.mem_filter.2 ⟨by simpa using hx, hbx⟩, rfl⟩)]; rfl)
theorem all_done (ok : PsOk P ops.toList ps) (hs : listed.size = ops.size) (hr : Region.ready .any ops listed = []) : ∀ i, i < ops.size → Lst listed i := by
  intro i
  induction i using Nat.strongRecOn with
  | ind i ih =>
    intro hi
    apply Classical.byContradiction
    intro hn
    obtain ⟨p, hp, rfl⟩ := ok.full i (by simpa using hi)
    have ho := ok.at' hp
    rw [Array.getElem?_toList] at ho
    obtain ⟨_, hea⟩ := ok.each
    have : p.i ∈ Region.ready .any ops listed := (ready_iff hs).2 ⟨p.o, ho, hn, fun e he => ih e ((hea p hp).lt e he) (by have := (hea p hp).lt e he; omega)⟩
    rw [hr] at this
    cases this
theorem count_done {i : Nat} (hi : i < listed.size) (hn : ¬ Lst listed i) : (listed.setIfInBounds i true).toList.count false + 1 = listed.toList.count false := by
  have hl : listed[i]? = some listed[i] := Array.getElem?_eq_getElem hi
  have hf : listed[i] = false := by
    unfold Lst at hn; rw [hl] at hn; simpa using hn
  have hi' : i < listed.toList.length := by simpa using hi
  rw [Array.toList_setIfInBounds, List.count_set hi']
  have h1 : listed.toList[i] = false := by simpa using hf
  have : false ∈ listed.toList := h1 ▸ List.getElem_mem hi'
  have hpos := List.count_pos_iff.2 this
  rw [h1]
  simp only [beq_self_eq_true, if_true, show (true == false) = false from rfl, Bool.false_eq_true, if_false, Nat.add_zero]
  omega
theorem count_none (hs : listed.size = ops.size) (h : listed.toList.count false = 0) : ∀ i, i < ops.size → Lst listed i := fun i hi => by
  have hl : listed[i]? = some listed[i] := Array.getElem?_eq_getElem (by omega)
  unfold Lst
  rw [hl]
  cases hb : listed[i] with
  | true => rfl
  | false =>
    have : false ∈ listed.toList := by rw [← hb]; simp
    exact absurd h (by have := List.count_pos_iff.2 this; omega)

theorem noCall_good (hG : GlobOk P w0) : CallGood P w0 (noCall : CallT V) := ⟨hG, fun _ _ _ _ _ _ _ _ _ h => by cases h⟩
theorem recheck_some {all : List Oper} {K : Option A} : ∀ {re : List Oper}, recheck P all F M n re K = some r → K = some r ∧ ∀ o ∈ re, ∃ v, stillD P all o F M n = some v ∧ ∀ d, o.dst = some d → ∃ u, F.get d = some u ∧ sameV v u = true
  | [], h => ⟨h, by simp⟩
  | o :: re, h => by
    have h : ob (stillD P all o F M n) (fun v => match o.dst with
      | some d => ob (F.get d) fun u => bb (sameV v u) (recheck P all F M n re K)
      | none => recheck P all F M n re K) = some r := h
    replace h := ob_some h; obtain ⟨v, hv, h⟩ := h
    have key : recheck P all F M n re K = some r ∧ ∀ d, o.dst = some d → ∃ u, F.get d = some u ∧ sameV v u = true := by
      split at h
      · rename_i d hd
        replace h := ob_some h; obtain ⟨u, hu, h⟩ := h
        replace h := bb_some h; obtain ⟨hs, h⟩ := h
        exact ⟨h, fun e he => by rw [hd] at he; injection he with he; subst he; exact ⟨u, hu, hs⟩⟩
      · rename_i hd
        exact ⟨h, fun e he => by rw [hd] at he; cases he⟩
    obtain ⟨h1, h2⟩ := recheck_some key.1
    exact ⟨h1, fun x hx => by
      rcases List.mem_cons.1 hx with rfl | hx
      · exact ⟨v, hv, key.2⟩
      · exact h2 x hx⟩

/-- New memory on the way. -/
structure Fly (P : Program) (ops : Array Oper) (ps : List Pre) (listed : Array Bool) (D must n0 : Nat) (pd : List (Nat × Blk)) (pend : List Nat) (g : Env) (F : Fr) (M : Mm) (w : World) (base : Nat) : Prop where
  down : Down ops.toList (fun i => tb D i = true)
  free : ∀ i, i < ops.size → ¬ Lst listed i → g (n0 + i) = none
  top : n0 + ops.size ≤ g.top
  nodup : pend.Nodup
  each : ∀ i ∈ pend, ∃ p ∈ ps, p.i = i ∧ p.fl = true ∧ tb D i = true ∧ tb must i = false ∧ ∃ v b, findB i pd = some b ∧ fltD P F (n0 + i) p.o.op = some (v, b) ∧ ∀ d, p.o.dst = some d → F.get d = some v
  full : ∀ p ∈ ps, p.fl = true → tb D p.i = true → Lst listed p.i ∨ p.i ∈ pend
  park : Park n0 pd g M w base (fun i => i ∈ pend ∧ Lst listed i)

theorem down_bt (ok : PsOk P ops.toList ps) (hd : Down ops.toList (fun i => tb D i = true)) {q : Pre} (hq : q ∈ ps) (hb : sub q.b D = true) : Down ops.toList (fun i => tb (bt D q.i) i = true) := fun i o ho hi e he => by
  have hi : tb (bt D q.i) i = true := hi
  show tb (bt D q.i) e = true
  rw [bt_bit, Bool.or_eq_true, decide_eq_true_eq] at hi ⊢
  refine .inl ?_
  rcases hi with hi | rfl
  · exact hd i o ho hi e he
  · have := ok.at' hq
    rw [this] at ho; injection ho with ho; subst ho
    obtain ⟨_, hea⟩ := ok.each
    exact sub_bit hb (((hea q hq).b e).2 he)
/-- What was made stands as it is told. -/
theorem flt_keep (ok : PsOk P ops.toList ps) (hd : Down ops.toList (fun i => tb D i = true)) {p q : Pre} (hp : p ∈ ps) (hfl : p.fl = true) (hpD : tb D p.i = true) (hq : q ∈ ps) (hqD : tb D q.i = false) {F' : Fr} {u : V} (hF : F' = F ∨ ∃ d, q.o.dst = some d ∧ d < m ∧ F' = F.set d (some u)) {id : Nat} {v : V} {b : Blk}
    (h1 : fltD P F id p.o.op = some (v, b)) (h2 : ∀ d, p.o.dst = some d → F.get d = some v) : fltD P F' id p.o.op = some (v, b) ∧ ∀ d, p.o.dst = some d → F'.get d = some v := by
  rcases hF with rfl | ⟨d, hdst, _, rfl⟩
  · exact ⟨h1, h2⟩
  · obtain ⟨k1, k2, k3⟩ := ok.flt p hp hfl q hq d hdst
    obtain ⟨_, hea⟩ := ok.each
    refine ⟨(fltD_congr fun t ht => ?_).trans h1, fun e he => ?_⟩
    · rw [T.get_set_is k1]
      split
      · rename_i e
        subst e
        have h3 := (hea p hp).a _ hd (fun e he => hd _ _ (ok.at' hp) hpD e he) _ (k2 (tmps_mem ht))
        rw [hqD] at h3; cases h3
      · rfl
    · rw [T.get_set_is k1]
      split
      · rename_i e'
        subst e'
        have h3 := k3 he
        rw [h3, hqD] at hpD; cases hpD
      · exact h2 e he
theorem still_flt (ok : PsOk P ops.toList ps) {p : Pre} (hp : p ∈ ps) (h : p.st = true) : p.fl = false := by
  obtain ⟨_, hea⟩ := ok.each
  rw [(hea p hp).st] at h
  rw [(hea p hp).fl]
  have h := stays_still h
  cases hf : isFlt p.o with
  | false => simp
  | true =>
    unfold isFlt at hf
    simp only [Bool.and_eq_true] at hf
    have hf := hf.2
    split at hf
    · rename_i ho; rw [ho] at h; cases h
    · rename_i ho; rw [ho] at h; cases h
    · rename_i ho; rw [ho] at h; cases h
    · cases hf

section
variable {n0 base : Nat} {pd : List (Nat × Blk)} {pend : List Nat}
theorem Fly.ahead (h : Fly P ops ps listed D must n0 pd pend g F M w base) (ok : PsOk P ops.toList ps) {q : Pre} (hq : q ∈ ps) (hst : q.st = true) (hD : tb D q.i = false) (hb : sub q.b D = true) {F' : Fr} {u : V}
    (hF : F' = F ∨ ∃ d, q.o.dst = some d ∧ d < m ∧ F' = F.set d (some u)) : Fly P ops ps listed (bt D q.i) must n0 pd pend g F' M w base := by
  refine ⟨down_bt ok h.down hq hb, h.free, h.top, h.nodup, fun i hi => ?_, fun p hp hf hp' => ?_, h.park⟩
  · obtain ⟨p, hp, h1, h2, h3, h4, v, b, h5, h6, h7⟩ := h.each i hi
    subst h1
    obtain ⟨k1, k2⟩ := flt_keep ok h.down hp h2 h3 hq hD hF h6 h7
    exact ⟨p, hp, rfl, h2, by rw [bt_bit, h3]; rfl, h4, v, b, h5, k1, k2⟩
  · rw [bt_bit, Bool.or_eq_true, decide_eq_true_eq] at hp'
    rcases hp' with hp' | hp'
    · exact h.full p hp hf hp'
    · rw [(ok.same hq hp hp').2.2, still_flt ok hq hst] at hf; cases hf
theorem Fly.ahead_flt (h : Fly P ops ps listed D must n0 pd pend g F M w base) (ok : PsOk P ops.toList ps) (hI : Inv ops ps listed D must g F m a) {q : Pre} (hq : q ∈ ps) (hfl : q.fl = true) (hD : tb D q.i = false) (hb : sub q.b D = true) {v : V} {b : Blk} (hv : fltD P F (n0 + q.i) q.o.op = some (v, b)) {F' : Fr}
    (hF : (F' = F ∧ q.o.dst = none) ∨ ∃ d, q.o.dst = some d ∧ d < m ∧ F' = F.set d (some v)) : Fly P ops ps listed (bt D q.i) must n0 ((q.i, b) :: pd) (q.i :: pend) g F' M w base := by
  have hnl : ¬ Lst listed q.i := fun hl => by rw [hI.sub _ hl] at hD; cases hD
  have hnp : q.i ∉ pend := fun hm => by obtain ⟨_, _, _, _, h3, _⟩ := h.each _ hm; rw [hD] at h3; cases h3
  have hfb : ∀ i ∈ pend, findB i ((q.i, b) :: pd) = findB i pd := fun i hi => by
    unfold findB
    have : Nat.beq q.i i = false := by
      cases hbq : Nat.beq q.i i with
      | false => rfl
      | true => exact absurd ((Nat.eq_of_beq_eq_true hbq) ▸ hi) hnp
    rw [show (q.i, b).1 = q.i from rfl, this]
    cases pd <;> rfl
  have hF' : F' = F ∨ ∃ d, q.o.dst = some d ∧ d < m ∧ F' = F.set d (some v) := hF.imp (fun h => h.1) id
  obtain ⟨_, hea⟩ := ok.each
  have hqa : tb q.a q.i = false := by
    cases hqa : tb q.a q.i with
    | false => rfl
    | true =>
      have := (hea q hq).a _ h.down (fun e he => sub_bit hb (((hea q hq).b e).2 he)) _ hqa
      rw [hD] at this; cases this
  refine ⟨down_bt ok h.down hq hb, h.free, h.top, List.nodup_cons.2 ⟨hnp, h.nodup⟩, fun i hi => ?_, fun p hp hf hp' => ?_, ⟨fun i hi => ?_, fun i j x y hi hj => h.park.apart i j x y ?_ ?_⟩⟩
  · rcases List.mem_cons.1 hi with rfl | hi
    · have hmust : tb must q.i = false := by
        cases hm : tb must q.i with
        | false => rfl
        | true => exact absurd (hI.must _ hm) hnl
      refine ⟨q, hq, rfl, hfl, by rw [bt_bit]; simp, hmust, v, b, by unfold findB; rw [show Nat.beq (q.i, b).1 q.i = true from Nat.beq_refl _], ?_, fun d hd => ?_⟩
      · rcases hF with ⟨rfl, _⟩ | ⟨d, hd, _, rfl⟩
        · exact hv
        · obtain ⟨k1, k2, k3⟩ := ok.flt q hq hfl q hq d hd
          refine (fltD_congr fun t ht => ?_).trans hv
          rw [T.get_set_is k1]
          split
          · rename_i e; subst e
            rw [k2 (tmps_mem ht)] at hqa; cases hqa
          · rfl
      · rcases hF with ⟨rfl, hd'⟩ | ⟨e, hd', _, rfl⟩
        · rw [hd'] at hd; cases hd
        · rw [hd'] at hd; injection hd with hd; subst hd
          obtain ⟨k1, _, _⟩ := ok.flt q hq hfl q hq e hd'
          rw [T.get_set_is k1, if_pos rfl]
    · obtain ⟨p, hp, h1, h2, h3, h4, v', b', h5, h6, h7⟩ := h.each i hi
      subst h1
      obtain ⟨k1, k2⟩ := flt_keep ok h.down hp h2 h3 hq hD hF' h6 h7
      exact ⟨p, hp, rfl, h2, by rw [bt_bit, h3]; rfl, h4, v', b', (hfb _ hi).trans h5, k1, k2⟩
  · rw [bt_bit, Bool.or_eq_true, decide_eq_true_eq] at hp'
    rcases hp' with hp' | hp'
    · exact (h.full p hp hf hp').imp id (List.mem_cons_of_mem _)
    · exact .inr (by rw [hp']; exact List.mem_cons_self)
  · have hi' : i ∈ pend := by
      rcases List.mem_cons.1 hi.1 with e | hi'
      · exact absurd (e ▸ hi.2) hnl
      · exact hi'
    obtain ⟨x, c, k1, k2⟩ := h.park.is i ⟨hi', hi.2⟩
    exact ⟨x, c, (hfb i hi').trans k1, k2⟩
  · exact ⟨(List.mem_cons.1 hi.1).resolve_left fun e => hnl (e ▸ hi.2), hi.2⟩
  · exact ⟨(List.mem_cons.1 hj.1).resolve_left fun e => hnl (e ▸ hj.2), hj.2⟩
theorem lst_mono {i j : Nat} (h : Lst listed j) : Lst (listed.setIfInBounds i true) j := by
  by_cases hi : i < listed.size
  · exact (lst_set hi).2 (.inl h)
  · unfold Lst at *
    rw [Array.getElem?_setIfInBounds]
    split
    · rename_i e; subst e
      rw [Array.getElem?_eq_none (by omega)] at h; cases h
    · exact h
theorem Fly.still (h : Fly P ops ps listed D must n0 pd pend g F M w base) (ok : PsOk P ops.toList ps) (hs : listed.size = ops.size) {p : Pre} (hp : p ∈ ps) (hf : p.fl = false) : Fly P ops ps (listed.setIfInBounds p.i true) D must n0 pd pend g F M w base := by
  refine ⟨h.down, fun i hi hn => h.free i hi fun hl => hn (lst_mono hl), h.top, h.nodup, h.each, fun q hq hqf hqD => (h.full q hq hqf hqD).imp lst_mono id, h.park.less fun i hi => ⟨hi.1, ?_⟩⟩
  rcases (lst_set (by rw [hs]; exact ok.lt hp)).1 hi.2 with hl | e
  · exact hl
  · obtain ⟨q, hq, h1, h2, _⟩ := h.each i hi.1
    rw [(ok.same hp hq (by rw [h1, e])).2.2, hf] at h2; cases h2

/-- Between two operations that move. -/
theorem closed_wp (hG : GlobOk P w0) {g0 : Env} {M0 : Mm} {wr : World} (h0 : g0.top ≤ n0) (hbase : base = wr.heap.size) (ok : PsOk P ops.toList ps) {Q : Exit → Act → World → Prop}
    (hre : ∀ o ∈ openS ps D must, ∃ v, stillD P ops.toList o F M n = some v ∧ ∀ d, o.dst = some d → ∃ u, F.get d = some u ∧ sameV v u = true)
    (hact : ∀ listed a g w, Inv ops ps listed D must g F m a → Fly P ops ps listed D must n0 pd pend g F M w base → RM w0 g M n w → Mv g0 M0 wr g M w → ∀ p ∈ ps, tb D p.i = false → (∀ e ∈ bindOn p.o, Lst listed e) → ∀ fuel, (listed.setIfInBounds p.i true).toList.count false ≤ fuel → wpOp P ops Q p.i (wpAny P .any ops Q fuel (listed.setIfInBounds p.i true)) a w)
    (hfin : ∀ listed a g w, Inv ops ps listed D must g F m a → Fly P ops ps listed D must n0 pd pend g F M w base → RM w0 g M n w → Mv g0 M0 wr g M w → (∀ i, i < ops.size → Lst listed i) → Q .normal a w) :
    ∀ fuel listed a g w, Inv ops ps listed D must g F m a → Fly P ops ps listed D must n0 pd pend g F M w base → RM w0 g M n w → Mv g0 M0 wr g M w → listed.toList.count false ≤ fuel → wpAny P .any ops Q fuel listed a w := by
  intro fuel
  induction fuel with
  | zero =>
    intro listed a g w hI hY hM hm hc
    have hall := count_none hI.size (by omega)
    refine ⟨?_, hfin _ _ _ _ hI hY hM hm hall⟩
    rw [List.eq_nil_iff_forall_not_mem]
    intro i hi
    obtain ⟨o, ho, hn, _⟩ := (ready_iff hI.size).1 hi
    exact hn (hall i (Array.getElem?_eq_some_iff.1 ho).1)
  | succ fuel ih =>
    intro listed a g w hI hY hM hm hc
    refine ⟨fun hr => hfin _ _ _ _ hI hY hM hm (all_done ok hI.size hr), fun i hi => ?_⟩
    obtain ⟨o, ho, hn, hb⟩ := (ready_iff hI.size).1 hi
    have hio : i < ops.size := (Array.getElem?_eq_some_iff.1 ho).1
    have hcd := count_done (listed := listed) (by rw [hI.size]; exact hio) hn
    obtain ⟨p, hp, rfl⟩ := ok.full i (by simpa using hio)
    have hpo := ok.at' hp
    rw [Array.getElem?_toList, ho] at hpo
    injection hpo with hpo; subst hpo
    cases hD : tb D p.i with
    | false => exact hact listed a g w hI hY hM hm p hp hD hb fuel (by omega)
    | true =>
      cases hst : p.st with
      | true =>
        have hmust : tb must p.i = false := by
          cases hm : tb must p.i with
          | false => rfl
          | true => exact absurd (hI.must _ hm) hn
        obtain ⟨v, hv, hd⟩ := hre p.o (List.mem_map.2 ⟨p, List.mem_filter.2 ⟨hp, by rw [hD, hmust, hst]; rfl⟩, rfl⟩)
        obtain ⟨_, hea⟩ := ok.each
        unfold wpOp
        rw [ho]
        refine oper_wp (noCall_good hG) hM (hI.slots ok hp hb) hv fun v' M' n' g' w' cv hK hv' hM' hm' hs => ?_
        obtain ⟨rfl, rfl, rfl, rfl⟩ := hs (stays_still ((hea p hp).st.symm.trans hst))
        injection hK with hK; subst hK
        refine ih _ _ _ _ (hI.after ok hp hD hb fun d hd' => ?_) (hY.still ok hI.size hp (still_flt ok hp hst)) hM hm (by omega)
        obtain ⟨u, k1, k2⟩ := hd d hd'
        exact ⟨u, k1, sameV_rep k2 hv'⟩
      | false =>
        cases hfl : p.fl with
        | false => exact absurd (hI.acts p hp hD hst hfl) hn
        | true =>
          have hpm : p.i ∈ pend := (hY.full p hp hfl hD).resolve_left hn
          obtain ⟨p', hp', e1, e2, e3, e4, v, b, e5, e6, e7⟩ := hY.each _ hpm
          rw [(ok.same hp hp' e1.symm).1] at e6 e7
          obtain ⟨cells, ty, cv, hrun, hrep⟩ := flt_run (a := a) hM ((hI.slots ok hp hb).ev fun t ht => tmps_mem ht) e6
          have hgn := hY.free p.i hio hn
          have hsub := putG_sub (x := ⟨w.heap.size, 0, cells.size⟩) hgn
          obtain ⟨k1, k2⟩ := hrep _ hsub putG_new
          obtain ⟨m1, m2, m3⟩ := park_new (ty := ty) hM hm hY.park (by rw [hbase]; exact hm.size) hgn (by have := hY.top; omega) h0 e5 k2
          obtain ⟨_, hea⟩ := ok.each
          have hg : p.o.guard = none := by
            have := (hea p hp).fl
            rw [hfl] at this
            have : isFlt p.o = true := by
              have := this.symm
              rw [Bool.and_eq_true] at this
              exact this.2
            unfold isFlt at this
            simp only [Bool.and_eq_true, Option.isNone_iff_eq_none] at this
            exact this.1.1
          unfold wpOp
          rw [ho]
          have hwant : Region.wanted p.o (yielded ops a.tmps) = true := by unfold Region.wanted; rw [hg]
          simp only [hwant, if_true]
          refine .inl ?_
          unfold Oper.wp
          rw [hrun]
          show wpAny P .any ops Q fuel _ _ _
          refine ih _ _ _ _ ((hI.mono hsub).after ok hp hD hb fun d hd => ⟨v, e7 d hd, k1⟩) ⟨hY.down, fun j hj hnj => ?_, hY.top, hY.nodup, hY.each, fun q hq hqf hqD => (hY.full q hq hqf hqD).imp lst_mono id, m3.less fun j hj => ?_⟩ m1 m2 (by omega)
          · have hne : j ≠ p.i := fun e => hnj ((lst_set (by rw [hI.size]; exact hio)).2 (.inr e))
            rw [putG_other (by omega)]
            exact hY.free j hj fun hl => hnj (lst_mono hl)
          · rcases (lst_set (by rw [hI.size]; exact hio)).1 hj.2 with hl | e
            · exact .inl ⟨hj.1, hl⟩
            · exact .inr e
end

theorem planB_wp {call : CallT A} (hcall : CallGood P w0 call) (ok : PsOk P ops.toList ps) {g0 : Env} {M0 : Mm} {wr : World} {n0 base : Nat} (h0 : g0.top ≤ n0) (hbase : base = wr.heap.size) {K : Fr → Mm → Nat → Option A} {Q : Exit → Act → World → Prop}
    (hQ : ∀ F' M' n' g' a' w', K F' M' n' = some r → RF g' F' m a' → RM w0 g' M' n' w' → Mv g0 M0 wr g' M' w' → Q .normal a' w') :
    ∀ {k : Nat} {D must : Nat} {pend : List Nat} {pd : List (Nat × Blk)} {pl : Plan} {F : Fr} {M : Mm} {n : Nat} {g : Env} {a : Act} {w : World} {listed : Array Bool} {fuel : Nat},
    mkPlan ps k D must pend = some pl → planB P call m n0 ops.toList K pl pd F M n = some r → Inv ops ps listed D must g F m a → Fly P ops ps listed D must n0 pd pend g F M w base → RM w0 g M n w → Mv g0 M0 wr g M w → listed.toList.count false ≤ fuel → wpAny P .any ops Q fuel listed a w
  | 0, _, _, _, _, _, _, _, _, _, _, _, _, _, h, _, _, _, _, _, _ => by cases h
  | k + 1, D, must, pend, pd, pl, F, M, n, g, a, w, listed, fuel, h, hp, hI, hY, hM, hm, hc => by
    obtain ⟨_, hea⟩ := ok.each
    have put : ∀ {q : Pre} {v : V} {K' : Fr → Option A}, putK m F q.o.dst v K' = some r → ∃ F', K' F' = some r ∧ ((F' = F ∧ q.o.dst = none) ∨ ∃ d, q.o.dst = some d ∧ d < m ∧ F' = F.set d (some v)) := fun {q v K'} hp => by
      rcases putK_some hp with ⟨hd, hp⟩ | ⟨d, hd, hlt, hp⟩
      · exact ⟨F, hp, .inl ⟨rfl, hd⟩⟩
      · exact ⟨_, hp, .inr ⟨d, hd, hlt, rfl⟩⟩
    rw [mkPlan] at h
    split at h
    · rename_i p hf
      rw [forceN_eq] at h
      split at h
      · rename_i q hq
        injection h with h; subst h
        have hmem := List.mem_of_find?_eq_some hf
        have hpr := List.find?_some hf
        simp only [rdy, Bool.and_eq_true, Bool.not_eq_true'] at hpr
        rw [planB] at hp
        replace hp := ob_some hp; obtain ⟨v, hv, hp⟩ := hp
        obtain ⟨F', hp, hF'⟩ := put hp
        have hF'' : F' = F ∨ ∃ d, p.o.dst = some d ∧ d < m ∧ F' = F.set d (some v) := hF'.imp (fun h => h.1) id
        exact planB_wp hcall ok h0 hbase hQ hq hp (hI.ahead ok hmem (.inl hpr.2) hpr.1.1 hF'') (hY.ahead ok hmem hpr.2 hpr.1.1 hpr.1.2 hF'') hM hm hc
      · cases h
    · split at h
      · rename_i p hf
        rw [forceN_eq] at h
        split at h
        · rename_i q hq
          injection h with h; subst h
          have hmem := List.mem_of_find?_eq_some hf
          have hpr := List.find?_some hf
          simp only [rdy, Bool.and_eq_true, Bool.not_eq_true'] at hpr
          rw [planB] at hp
          replace hp := ob_some hp; obtain ⟨⟨v, b⟩, hv, hp⟩ := hp
          obtain ⟨F', hp, hF'⟩ := put hp
          have hF'' : F' = F ∨ ∃ d, p.o.dst = some d ∧ d < m ∧ F' = F.set d (some v) := hF'.imp (fun h => h.1) id
          exact planB_wp hcall ok h0 hbase hQ hq hp (hI.ahead ok hmem (.inr hpr.2) hpr.1.1 hF'') (hY.ahead_flt ok hI hmem hpr.2 hpr.1.1 hpr.1.2 hv hF') hM hm hc
        · cases h
      · rename_i hnof
        split at h
        · rename_i hnil
          injection h with h; subst h
          rw [planB] at hp
          obtain ⟨hK, hre⟩ := recheck_some hp
          refine closed_wp hcall.1 h0 hbase ok hre (fun listed a g w hI hY hM hm p hp hD hb fuel hc => ?_) (fun listed a g w hI hY hM hm hall => ?_) fuel listed a g w hI hY hM hm hc
          · have : p ∈ ps.filter (rdy D) := List.mem_filter.2 ⟨hp, by
              unfold rdy
              rw [hD, Bool.not_false, Bool.true_and]
              exact sub_of fun i hi => hI.sub i (hb i (((hea p hp).b i).1 hi))⟩
            rw [hnil] at this; cases this
          · have hpl : ∀ i ∈ pend, i ∈ pend ∧ Lst listed i := fun i hi => by
              obtain ⟨q, hq, e, _⟩ := hY.each i hi
              exact ⟨hi, hall i (by rw [← e]; exact ok.lt hq)⟩
            obtain ⟨M', hK', hM', hm', _⟩ := reveal_some hK hY.nodup hpl hY.park hM hm hbase
            exact hQ F M' n g a w hK' ⟨hI.sz, fun t v hv => hI.slot t v hv fun q hq _ _ => hall _ (ok.lt hq), hI.defers, hI.lt⟩ hM' hm'
        · rename_i p hone
          rw [forceN_eq, forceN_eq] at h
          split at h
          · rename_i q hq
            injection h with h; subst h
            rw [planB] at hp
            obtain ⟨hK, hre⟩ := recheck_some hp
            have hpm : p ∈ ps ∧ rdy D p = true := by
              have : p ∈ ps.filter (rdy D) := by rw [hone]; exact List.mem_cons_self
              exact List.mem_filter.1 this
            have hpD : tb D p.i = false := by have := hpm.2; simp only [rdy, Bool.and_eq_true, Bool.not_eq_true'] at this; exact this.1
            have hpb : sub p.b D = true := by have := hpm.2; simp only [rdy, Bool.and_eq_true, Bool.not_eq_true'] at this; exact this.2
            have hpf : p.fl = false := by
              cases hpf : p.fl with
              | false => rfl
              | true =>
                have := List.find?_eq_none.1 hnof p hpm.1
                rw [hpm.2, hpf] at this
                exact absurd rfl this
            have hpo := ok.at' hpm.1
            rw [Array.getElem?_toList] at hpo
            refine closed_wp hcall.1 h0 hbase ok hre (fun listed a g w hI hY hM hm p' hp' hD hb fuel hc => ?_) (fun listed a g w hI hY hM hm hall => ?_) fuel listed a g w hI hY hM hm hc
            · have hp'm : p' ∈ ps.filter (rdy D) := List.mem_filter.2 ⟨hp', by
                unfold rdy
                rw [hD, Bool.not_false, Bool.true_and]
                exact sub_of fun i hi => hI.sub i (hb i (((hea p' hp').b i).1 hi))⟩
              rw [hone, List.mem_singleton] at hp'm
              subst hp'm
              have hmust' : ∀ i, tb (Nat.lor (bt must p'.i) p'.a) i = true → Lst listed i ∨ i = p'.i := fun i hi => by
                rw [lor_bit, bt_bit, Bool.or_eq_true, Bool.or_eq_true, decide_eq_true_eq] at hi
                rcases hi with (hi | hi) | hi
                · exact .inl (hI.must i hi)
                · exact .inr hi.symm
                · exact .inl ((hea p' hp').a _ hI.down hb _ hi)
              have hnotp : ∀ i ∈ pend, i ≠ p'.i := fun i hi e => by
                obtain ⟨_, _, _, _, h3, _⟩ := hY.each i hi
                rw [e, hD] at h3; cases h3
              obtain ⟨M1, hK1, hM1, hm1, hp1⟩ := reveal_some hK (hY.nodup.filter _) (fun i hi => by
                rw [List.mem_filter] at hi
                exact ⟨hi.1, (hmust' i hi.2).resolve_right (hnotp i hi.1)⟩) hY.park hM hm hbase
              unfold wpOp
              rw [hpo]
              refine oper_wp hcall hM1 (hI.slots ok hp' hb) hK1 fun v M' n' g' w' cv hK hv hM' hm' _ => ?_
              obtain ⟨F', hK, hF'⟩ := put hK
              have hF'' : F' = F ∨ ∃ d, p'.o.dst = some d ∧ d < m ∧ F' = F.set d (some v) := hF'.imp (fun h => h.1) id
              have hI' : Inv ops ps (listed.setIfInBounds p'.i true) (bt D p'.i) (Nat.lor (bt must p'.i) p'.a) g' F' m (a.put p'.o.dst cv) := by
                have hpk : putK m F p'.o.dst v some = some F' := by
                  rcases hF' with ⟨rfl, hd⟩ | ⟨d, hd, hlt, rfl⟩
                  · rw [hd]; rfl
                  · rw [hd]
                    show bb (Nat.ble (Nat.succ d) m) (T.setK 64 F d (some v) some) = _
                    rw [show Nat.ble (Nat.succ d) m = true from Nat.ble_eq_true_of_le hlt]
                    show T.setK 64 F d (some v) some = _
                    rw [T.setK_set]
                obtain ⟨F2, e, hI2⟩ := (hI.mono hm'.ext).both ok hp' hb hv hpk
                injection e with e
                rw [← e]; exact hI2
              have htop : ∀ i ∈ pend, n0 + i < g.top := fun i hi => by
                obtain ⟨q, hq, e, _⟩ := hY.each i hi
                have := ok.lt hq
                have := hY.top
                omega
              refine planB_wp hcall ok h0 hbase hQ hq hK hI' ⟨down_bt ok hY.down hp' hpb, fun i hi hn => ?_, Nat.le_trans hY.top hm'.up, hY.nodup.filter _, fun i hi => ?_, fun q' hq' hqf hqD => ?_, ?_⟩ hM' (hm1.trans hm') hc
              · rw [hm'.low _ (by have := hY.top; omega)]
                exact hY.free i hi fun hl => hn (lst_mono hl)
              · rw [List.mem_filter] at hi
                obtain ⟨q', hq', h1, h2, h3, h4, v', b', h5, h6, h7⟩ := hY.each i hi.1
                subst h1
                obtain ⟨k1, k2⟩ := flt_keep ok hY.down hq' h2 h3 hp' hD hF'' h6 h7
                exact ⟨q', hq', rfl, h2, by rw [bt_bit, h3]; rfl, by simpa using hi.2, v', b', h5, k1, k2⟩
              · rw [bt_bit, Bool.or_eq_true, decide_eq_true_eq] at hqD
                rcases hqD with hqD | hqD
                · rcases hY.full q' hq' hqf hqD with hl | hl
                  · exact .inl (lst_mono hl)
                  · cases hmm : tb (Nat.lor (bt must p'.i) p'.a) q'.i with
                    | true => exact .inl (hI'.must _ hmm)
                    | false => exact .inr (List.mem_filter.2 ⟨hl, by rw [hmm]; rfl⟩)
                · rw [(ok.same hp' hq' hqD).2.2, hpf] at hqf; cases hqf
              · refine (hp1.mv hM1 hm' fun i hi => htop i hi.1.1).less fun i hi => ?_
                have hi1 := List.mem_filter.1 hi.1
                have hl : Lst listed i := by
                  rcases (lst_set (by rw [hI.size]; exact ok.lt hp')).1 hi.2 with hl | e
                  · exact hl
                  · exact absurd e (hnotp i hi1.1)
                refine ⟨⟨hi1.1, hl⟩, fun hm2 => ?_⟩
                have := (List.mem_filter.1 hm2).2
                have h2 := hi1.2
                rw [this] at h2; cases h2
            · have := hI.sub _ (hall p.i (Array.getElem?_eq_some_iff.1 hpo).1)
              rw [hpD] at this; cases this
          · cases h
        · cases h

/-- A region that draws. -/
theorem draw_wp {call : CallT A} (hcall : CallGood P w0 call) {id : Nat} {K : Fr → Mm → Nat → Option A} {Q : Exit → Act → World → Prop} (h : drawB P call m ops.toList F M n K = some r) (hM : RM w0 g M n w) (hF : RF g F m a)
    (hQ : ∀ F' M' n' g' a' w', K F' M' n' = some r → RF g' F' m a' → RM w0 g' M' n' w' → Mv g M w g' M' w' → Q .normal a' w') : (Code.region id ops true).wp P Q a w := by
  unfold drawB at h
  replace h := ob_some h; obtain ⟨pl, hpl, h⟩ := h
  obtain ⟨ps, ok, hmix, hpl⟩ := planOf_some hpl
  refine wp_region_any hmix ?_
  have hnl : ∀ i, ¬ Lst (Array.replicate ops.size false) i := fun i hi => by
    unfold Lst at hi
    rw [Array.getElem?_replicate] at hi
    split at hi
    · injection hi with hi; cases hi
    · cases hi
  let g1 : Env := ⟨g.f, n + ops.toList.length⟩
  have hs1 : Sub g g1 := fun _ _ h => h
  let w1 : World := { w with drawn := w.drawn + 1 }
  have hM1 : RM w0 g M n w1 := hM.world rfl rfl rfl rfl
  have hgt := hM.top
  have hM' : RM w0 g1 M (n + ops.toList.length) w1 := ⟨fun id b hb => by obtain ⟨x, hx, hr⟩ := hM1.rep id b hb; exact ⟨x, hx, hr.ext hs1 rfl⟩, hM1.inj, fun id x hx => by have := hM1.lt id x hx; exact ⟨by omega, this.2⟩, hM1.size, hM1.old, hM1.tape, hM1.os, hM1.output, rfl⟩
  have hm' : Mv g M w g1 M w1 := ⟨hs1, Nat.le_refl _, fun _ _ _ => rfl, fun id x c h1 h2 _ => ⟨id, x, c, h1, h2, rfl⟩, fun _ _ => rfl, by show g.top ≤ n + ops.toList.length; omega⟩
  have hI : Inv ops ps (Array.replicate ops.size false) 0 0 g1 F m a :=
    ⟨by simp, fun i hi => absurd hi (hnl i), fun p _ h => absurd h (by rw [tb_zero]; simp), fun i o _ hi => absurd hi (hnl i), fun i h => absurd h (by rw [tb_zero]; simp), hF.sz, hF.defers, hF.lt, fun t v hv _ => (hF.tmp t v hv).mono hs1⟩
  have hY : Fly P ops ps (Array.replicate ops.size false) 0 0 n [] [] g1 F M w1 w.heap.size :=
    ⟨fun i o _ h => absurd (show tb 0 i = true from h) (by rw [tb_zero]; simp), fun i hi _ => by
      cases hg : g1 (n + i) with
      | none => rfl
      | some x => have := (hM1.lt (n + i) x hg).1; omega, by show n + ops.size ≤ n + ops.toList.length; simp, List.nodup_nil, (fun i hi => by cases hi), fun p _ _ h => absurd h (by rw [tb_zero]; simp), ⟨(fun i hi => by cases hi.1), (fun i j x y hi => by cases hi.1)⟩⟩
  exact planB_wp hcall ok (n0 := n) (by omega) rfl hQ hpl h hI hY hM' hm' (by simp)
end Go.Eb

/-
The closed evaluator: code, calls.
-/
set_option linter.unusedVariables false
set_option linter.unusedSimpArgs false
namespace Go.Eb
variable {A : Type} {P : Program} {w0 : World} {g : Env} {F : Fr} {M : Mm} {n m : Nat} {a : Act} {w : World} {r : A}

/-- What code is asked for. -/
def CodeQ (w0 : World) (g : Env) (M : Mm) (w : World) (m : Nat) (r : A) (K : ExitK A) (Q : Exit → Act → World → Prop) : Prop :=
  ∀ e F' M' n' g' a' w', K e F' M' n' = some r → RF g' F' m a' → RM w0 g' M' n' w' → Mv g M w g' M' w' → Q e a' w'
theorem CodeQ.after {g' : Env} {M' : Mm} {w' : World} {K : ExitK A} {Q : Exit → Act → World → Prop} (h : CodeQ w0 g M w m r K Q) (hm : Mv g M w g' M' w') : CodeQ w0 g' M' w' m r K Q :=
  fun e F2 M2 n2 g2 a2 w2 h1 h2 h3 h4 => h e F2 M2 n2 g2 a2 w2 h1 h2 h3 (hm.trans h4)

theorem codeB_wp [Subsingleton A] {call : CallT A} (hcall : CallGood P w0 call) : ∀ (c : Code) {F : Fr} {M : Mm} {n : Nat} {g : Env} {a : Act} {w : World} {K : ExitK A} {Q : Exit → Act → World → Prop},
    codeB P call m c F M n K = some r → RM w0 g M n w → RF g F m a → CodeQ w0 g M w m r K Q → c.wp P Q a w := by
  intro c
  induction c with
  | skip =>
    intro F M n g a w K Q h hM hF hQ
    rw [codeB] at h
    exact wp_skip (hQ _ _ _ _ _ _ _ h hF hM (.refl g M w))
  | region id ops draw =>
    intro F M n g a w K Q h hM hF hQ
    rw [codeB] at h
    cases draw with
    | true => exact draw_wp hcall h hM hF fun F' M' n' g' a' w' h1 h2 h3 h4 => hQ _ _ _ _ _ _ _ h1 h2 h3 h4
    | false => exact region_wp hcall h hM hF fun F' M' n' g' a' w' h1 h2 h3 h4 => hQ _ _ _ _ _ _ _ h1 h2 h3 h4
  | seq x y ihx ihy =>
    intro F M n g a w K Q h hM hF hQ
    rw [codeB] at h
    refine wp_seq (ihx h hM hF fun e F' M' n' g' a' w' h1 h2 h3 h4 => ?_)
    cases e with
    | normal => exact ihy h1 h3 h2 (hQ.after h4)
    | exit _ => exact hQ _ _ _ _ _ _ _ h1 h2 h3 h4
    | goto _ => exact hQ _ _ _ _ _ _ _ h1 h2 h3 h4
    | ret => exact hQ _ _ _ _ _ _ _ h1 h2 h3 h4
    | panic _ => exact hQ _ _ _ _ _ _ _ h1 h2 h3 h4
    | outgrown => exact hQ _ _ _ _ _ _ _ h1 h2 h3 h4
  | cond c x y ihx ihy =>
    intro F M n g a w K Q h hM hF hQ
    rw [codeB] at h
    cases hc : opnd F c with
    | none => rw [hc] at h; cases h
    | some v =>
      have hv := hF.eval hc
      rw [hc] at h
      cases v with
      | bool b =>
        have he : a.eval c = .bool b := by generalize a.eval c = z at hv; cases hv; rfl
        cases b with
        | true => exact wp_cond_true he (ihx h hM hF hQ)
        | false => exact wp_cond_false he (ihy h hM hF hQ)
      | anyb =>
        replace h := ob_some h; obtain ⟨r1, h1, h2⟩ := h
        obtain rfl : r1 = r := Subsingleton.elim _ _
        generalize hz : a.eval c = z at hv
        cases hv with | anyb b =>
          cases b with
          | true => exact wp_cond_true hz (ihx h1 hM hF hQ)
          | false => exact wp_cond_false hz (ihy h2 hM hF hQ)
      | _ => cases h
  | block id c ih =>
    intro F M n g a w K Q h hM hF hQ
    rw [codeB] at h
    refine wp_block (ih h hM hF fun e F' M' n' g' a' w' h1 h2 h3 h4 => ?_)
    cases e with
    | normal => exact hQ _ _ _ _ _ _ _ h1 h2 h3 h4
    | exit i =>
      unfold blockK at h1
      simp only at h1
      show if i = id then Q .normal a' w' else Q (.exit i) a' w'
      split at h1
      · rename_i hi
        rw [if_pos (Nat.eq_of_beq_eq_true hi)]
        exact hQ _ _ _ _ _ _ _ h1 h2 h3 h4
      · rename_i hi
        rw [if_neg (Nat.ne_of_beq_eq_false hi)]
        exact hQ _ _ _ _ _ _ _ h1 h2 h3 h4
    | goto _ => exact hQ _ _ _ _ _ _ _ h1 h2 h3 h4
    | ret => exact hQ _ _ _ _ _ _ _ h1 h2 h3 h4
    | panic _ => exact hQ _ _ _ _ _ _ _ h1 h2 h3 h4
    | outgrown => exact hQ _ _ _ _ _ _ _ h1 h2 h3 h4
  | loop c ih =>
    intro F M n g a w K Q h hM hF hQ
    rw [codeB] at h
    have key : ∀ (fuel : Nat) {F : Fr} {M : Mm} {n : Nat} {g : Env} {a : Act} {w : World}, loopB fuel (codeB P call m c) F M n K = some r → RM w0 g M n w → RF g F m a → CodeQ w0 g M w m r K Q → Code.rounds P c Q fuel a w := by
      intro fuel
      induction fuel with
      | zero => intro F M n g a w h; cases h
      | succ fuel ihf =>
        intro F M n g a w h hM hF hQ
        have h : codeB P call m c F M n (seqK (loopB fuel (codeB P call m c) · · · K) K) = some r := h
        refine ih h hM hF fun e F' M' n' g' a' w' h1 h2 h3 h4 => ?_
        cases e with
        | normal => exact ihf h1 h3 h2 (hQ.after h4)
        | exit _ => exact hQ _ _ _ _ _ _ _ h1 h2 h3 h4
        | goto _ => exact hQ _ _ _ _ _ _ _ h1 h2 h3 h4
        | ret => exact hQ _ _ _ _ _ _ _ h1 h2 h3 h4
        | panic _ => exact hQ _ _ _ _ _ _ _ h1 h2 h3 h4
        | outgrown => exact hQ _ _ _ _ _ _ _ h1 h2 h3 h4
    exact wp_loop_rounds _ (key _ h hM hF hQ)
  | exit id =>
    intro F M n g a w K Q h hM hF hQ
    rw [codeB] at h
    exact wp_exit (hQ _ _ _ _ _ _ _ h hF hM (.refl g M w))
  | ret =>
    intro F M n g a w K Q h hM hF hQ
    rw [codeB] at h
    exact wp_ret (hQ _ _ _ _ _ _ _ h hF hM (.refl g M w))
  | _ => intro F M n g a w K Q h hM hF hQ; unfold codeB at h; cases h

theorem ress_run (hG : GlobOk P w0) (hM : RM w0 g M n w) (hF : RF g F m a) : ∀ {rs : List ResultVar} {K : List V → Option A}, ressK P F M n rs K = some r → ∃ vs cvs, K vs = some r ∧ (rs.mapM (m := Sem) fun
      | .tmp t => pure (a.tmps.getD t undef)
      | .cell b t => do loadVar t (← asAddr (a.tmps.getD b undef))).run P w = .ok cvs w ∧ RepL g vs cvs
  | [], K, h => ⟨[], [], h, by simp, .nil⟩
  | .tmp t :: rs, K, h => by
    have h : ob (F.get t) (fun v => ressK P F M n rs fun vs => K (v :: vs)) = some r := h
    replace h := ob_some h; obtain ⟨v, hv, h⟩ := h
    obtain ⟨vs, cvs, h1, h2, h3⟩ := ress_run hG hM hF h
    refine ⟨v :: vs, a.tmps.getD t undef :: cvs, h1, ?_, .cons (hF.tmp t v hv) h3⟩
    simp only [List.mapM_cons, Sem.run_bind, Sem.run_pure, Result.andThen_ok, h2]
  | .cell b t :: rs, K, h => by
    have h : ob (F.get b) (fun p => loadB P M n t p fun v _ _ => ressK P F M n rs fun vs => K (v :: vs)) = some r := h
    replace h := ob_some h; obtain ⟨p, hp, h⟩ := h
    obtain ⟨v, cv, h1, h2, h3, _⟩ := loadB_did hG hM (hF.tmp b p hp) h
    obtain ⟨vs, cvs, h4, h5, h6⟩ := ress_run hG hM hF h1
    refine ⟨v :: vs, cv :: cvs, h4, ?_, .cons h3 h6⟩
    have hrep := hF.tmp b p hp
    simp only [List.mapM_cons, Sem.run_bind]
    generalize a.tmps.getD b undef = cp at hrep h2 ⊢
    unfold loadB at h
    split at h
    · cases hrep
      rw [Ev.loadAt_run] at h2
      simp only [Sem.run_bind, Sem.run_pure, Result.andThen_ok, asAddr, h2]
      erw [h5]
      rfl
    · cases hrep
      rw [Ev.loadAt_run] at h2
      simp only [Sem.run_bind, Sem.run_pure, Result.andThen_ok, asAddr, h2]
      erw [h5]
      rfl
    · cases h
theorem one_rep {vs : List V} {cvs : Array Value} (h : RepL g vs cvs.toList) : Rep g (one vs) (if h : cvs.size = 1 then cvs[0] else .tuple cvs) := by
  have hl : vs.length = cvs.size := by rw [h.length]; simp
  split
  · rename_i h1
    cases vs with
    | nil => simp at hl; omega
    | cons v r =>
      cases r with
      | cons _ _ => simp at hl; omega
      | nil =>
        obtain ⟨cv, e1, h2⟩ := h.inv1
        have : cvs[0] = cv := by
          have : cvs.toList[0]? = some cv := by rw [e1]; rfl
          simp at this
          rw [Array.getElem?_eq_getElem (by omega)] at this
          injection this
        rw [this]
        exact h2
  · rename_i h1
    have : one vs = .tup vs := by
      cases vs with
      | nil => rfl
      | cons v r =>
        cases r with
        | nil => simp at hl; omega
        | cons _ _ => rfl
    rw [this]
    exact .tup h
theorem ret_run (hG : GlobOk P w0) {fn : Func} {K : V → Mm → Nat → Option A} (hM : RM w0 g M n w) (hF : RF g F m a) (h : retB P F M n fn.results.toList K = some r) : ∃ v cv, K v M n = some r ∧ (results fn a.tmps).run P w = .ok cv w ∧ Rep g v cv := by
  obtain ⟨vs, cvs, h1, h2, h3⟩ := ress_run hG hM hF h
  refine ⟨one vs, (if h : cvs.toArray.size = 1 then cvs.toArray[0] else .tuple cvs.toArray), h1, ?_, one_rep (by simpa using h3)⟩
  unfold results
  rw [Sem.run_bind]
  have : ((fn.results.mapM (m := Sem) fun
      | .tmp t => pure (a.tmps.getD t undef)
      | .cell b t => do loadVar t (← asAddr (a.tmps.getD b undef))) : Sem (Array Value)).run P w = .ok cvs.toArray w := by
    rw [Array.mapM_eq_mapM_toList]
    show ((List.toArray <$> _ : Sem (Array Value))).run P w = _
    rw [map_eq_pure_bind, Sem.run_bind]
    erw [h2]
    rfl
  erw [this]
  rfl

theorem argsK_some : ∀ {vs : List V} {i : Nat} {F : Fr} {K : Fr → Option A}, argsK vs i F K = some r → ∃ F', K F' = some r ∧ ∀ t v, F'.get t = some v → F.get t = some v ∨ (i ≤ t ∧ vs[t - i]? = some v)
  | [], i, F, K, h => ⟨F, h, fun t v h => .inl h⟩
  | x :: vs, i, F, K, h => by
    have h : T.setK 64 F i (some x) (fun F => argsK vs (Nat.succ i) F K) = some r := h
    rw [T.setK_set] at h
    obtain ⟨F', h1, h2⟩ := argsK_some h
    refine ⟨F', h1, fun t v ht => ?_⟩
    rcases h2 t v ht with h3 | ⟨h3, h4⟩
    · rcases T.get_set h3 with ⟨rfl, e⟩ | ⟨_, h3⟩
      · exact .inr ⟨Nat.le_refl _, by simpa using e⟩
      · exact .inl h3
    · refine .inr ⟨by omega, ?_⟩
      have : t - i = (t - Nat.succ i) + 1 := by omega
      rw [this, List.getElem?_cons_succ]; exact h4

theorem bodyOf_some {f : FuncId} {fc : Func × Code} (h : bodyOf P f = some fc) : P.funcs[f]? = some fc.1 ∧ fc.1.body = some fc.2 ∧ (fc.1.name == "runtime.NumGoroutine") = false := by
  unfold bodyOf at h
  split at h
  · rename_i fn hf
    split at h
    · rename_i c hc
      split at h
      · cases h
      · rename_i hn
        injection h with h; subst h
        exact ⟨hf, hc, hn⟩
    · cases h
  · cases h

/-- What becomes of the world in a call that keeps to itself. -/
structure Aside (w w' : World) : Prop where
  size : w.heap.size ≤ w'.heap.size
  old : ∀ b, b < w.heap.size → w'.heap[b]? = w.heap[b]?
  tape : w'.tape = w.tape
  os : w'.os = w.os
  output : w'.output = w.output
def KnOk (P : Program) (f : FuncId) : KS → Prop
  | .tru => ∀ w, GlobOk P w → Calls P f #[] w fun e w' => Aside w w' ∧ e = .returned (.bool true)
  | .idstr => ∀ w s, s.size ≤ 140737488355328 → GlobOk P w → Calls P f #[.string s] w fun e w' => Aside w w' ∧ e = .returned (.string s)
  | .res v b => ∀ w, GlobOk P w → Calls P f #[] w fun e w' => Aside w w' ∧ ∃ x cv, e = .returned cv ∧ w.heap.size ≤ x.blk ∧ x.blk < w'.heap.size ∧ ∀ (g : Env) (id : Nat), g id = some x → Rep g (shiftV id v) cv ∧ BlkRep g w'.heap x b
/-- What is known of some functions. -/
def Known (P : Program) (kn : List (Nat × KS)) : Prop := ∀ f k, knOf f kn = some k → (∃ fn c, P.funcs[f]? = some fn ∧ fn.body = some c ∧ (fn.name == "runtime.NumGoroutine") = false) ∧ KnOk P f k
theorem RM.grow {w' : World} (h : RM w0 g M n w) (ha : Aside w w') : RM w0 g M n w' ∧ Mv g M w g M w' := by
  refine ⟨⟨fun id b hb => ?_, h.inj, fun id x hx => ?_, Nat.le_trans h.size ha.size, fun b hb => ?_, ha.tape.trans h.tape, ha.os.trans h.os, ha.output.trans h.output, h.top⟩, ⟨.refl g, ha.size, fun b hb _ => ha.old b hb, fun id x c hc hx _ => ⟨id, x, c, hc, hx, rfl⟩, fun _ _ => rfl, Nat.le_refl _⟩⟩
  · obtain ⟨x, hx, hr⟩ := h.rep id b hb
    exact ⟨x, hx, hr.ext (.refl g) (ha.old _ (h.lt id x hx).2.2)⟩
  · have := h.lt id x hx
    exact ⟨this.1, this.2.1, by have := ha.size; omega⟩
  · rw [ha.old b (Nat.lt_of_lt_of_le hb h.size)]; exact h.old b hb
/-- A block that another call has made. -/
theorem RM.adopt {w' : World} (h : RM w0 g M n w) (ha : Aside w w') {b : Blk} {x : Lc} (hx : w.heap.size ≤ x.blk) (hx' : x.blk < w'.heap.size) (hb : BlkRep (updG g n x) w'.heap x b) :
    RM w0 (updG g n x) (M.set n (some b)) (n + 1) w' ∧ Mv g M w (updG g n x) (M.set n (some b)) w' := by
  have hs := h.sub x
  have hn : ∀ c, M.get n = some c → False := fun c hc => by obtain ⟨y, hy, _⟩ := h.rep n c hc; have := (h.lt n y hy).1; omega
  have key : ∀ i c, (M.set n (some b)).get i = some c → (i = n ∧ c = b) ∨ (i ≠ n ∧ M.get i = some c) := fun i c hi => by
    rcases T.get_set hi with ⟨h1, h2⟩ | h
    · injection h2 with h2; exact .inl ⟨h1, h2.symm⟩
    · exact .inr h
  have gold : ∀ i y, i ≠ n → updG g n x i = some y → g i = some y := fun i y hi hy => by rw [updG_other hi] at hy; exact hy
  have gnew : ∀ y, updG g n x n = some y → y = x := fun y hy => by rw [updG_new] at hy; injection hy with hy; exact hy.symm
  have hsz := ha.size
  refine ⟨⟨fun i c hi => ?_, fun i j y z c d hi hj hy hz e => ?_, fun i y hy => ?_, Nat.le_trans h.size hsz, fun k hk => ?_, ha.tape.trans h.tape, ha.os.trans h.os, ha.output.trans h.output, rfl⟩, ⟨hs, hsz, fun k hk _ => ha.old k hk, fun i y c hi hy hyl => ?_, fun i hi => updG_other (by have := h.top; omega), by show g.top ≤ n + 1; have := h.top; omega⟩⟩
  · rcases key i c hi with ⟨rfl, rfl⟩ | ⟨hne, hi⟩
    · exact ⟨x, updG_new, hb⟩
    · obtain ⟨y, hy, hr⟩ := h.rep i c hi
      exact ⟨y, hs i y hy, hr.ext hs (ha.old _ (h.lt i y hy).2.2)⟩
  · rcases key i c hi with ⟨e1, e2⟩ | ⟨hne, hi'⟩ <;> rcases key j d hj with ⟨e3, e4⟩ | ⟨hne', hj'⟩
    · rw [e1, e3]
    · subst e1
      have := gnew y hy; subst this
      have := (h.lt j z (gold j z hne' hz)).2.2; omega
    · subst e3
      have := gnew z hz; subst this
      have := (h.lt i y (gold i y hne hy)).2.2; omega
    · exact h.inj i j y z c d hi' hj' (gold i y hne hy) (gold j z hne' hz) e
  · by_cases hi : i = n
    · subst hi
      have := gnew y hy; subst this
      have := h.size
      exact ⟨by omega, by omega, hx'⟩
    · have := h.lt i y (gold i y hi hy)
      exact ⟨by omega, this.2.1, by omega⟩
  · rw [ha.old k (Nat.lt_of_lt_of_le hk h.size)]; exact h.old k hk
  · rcases key i c hi with ⟨rfl, rfl⟩ | ⟨hne, hi'⟩
    · have := gnew y hy; subst this; omega
    · exact ⟨i, y, c, hi', gold i y hne hy, rfl⟩
theorem RM.globs (h : RM w0 g M n w) (hG : GlobOk P w0) : GlobOk P w := fun k hk => by
  obtain ⟨c, hc, h1⟩ := hG k hk
  have hlt : k < w0.heap.size := by
    unfold World.cell? at hc
    dsimp only at hc
    cases hh : w0.heap[k]? with
    | none => rw [hh] at hc; cases hc
    | some _ => exact (Array.getElem?_eq_some_iff.1 hh).1
  exact ⟨c, by rw [← hc]; unfold World.cell?; dsimp only; rw [h.old k hlt], h1⟩

/-- Every function, to a depth. -/
theorem runB_good [Subsingleton A] {kn : List (Nat × KS)} (hG : GlobOk P w0) (hkn : Known P kn) : ∀ (d : Nat), CallGood P w0 (runB P kn d : CallT A)
  | 0 => ⟨hG, fun f xs M n K r g w cargs h _ _ => by cases h⟩
  | d + 1 => ⟨hG, fun f xs M n K r g w cargs h hM hx => by
    replace h : (match knOf f kn with
      | some k => knB k xs M n K
      | none => ob (bodyOf P f) (fun fc => enterB P (runB P kn d) fc xs M n K)) = some r := h
    have hent : ∀ {fn : Func} {c : Code}, P.funcs[f]? = some fn → fn.body = some c → (fn.name == "runtime.NumGoroutine") = false → (callFunc f cargs).run P w = .ok (.enter f cargs) w := fun {fn c} hf hb hname => by
      simp only [callFunc, program, Sem.run_bind]
      simp [Sem.run, hf, hname, hb]
      simpa using hname
    split at h
    · rename_i k hin
      obtain ⟨⟨fn, c, hf, hb, hname⟩, hc⟩ := hkn f k hin
      refine ⟨hent hf hb hname, ?_⟩
      have hGw := hM.globs hG
      unfold knB at h
      split at h
      · replace h := bb_some h; obtain ⟨hx0, h⟩ := h
        obtain rfl : xs = [] := by simpa using hx0
        obtain rfl : cargs = #[] := by have := hx.inv0; simpa using this
        refine (hc w hGw).mono fun e w' ⟨ha, he⟩ => ?_
        subst he
        obtain ⟨k1, k2⟩ := hM.grow ha
        exact ⟨_, _, M, n, g, rfl, h, .bool _, k1, k2⟩
      · split at h
        · obtain ⟨cv, e1, hr⟩ := hx.inv1
          obtain rfl : cargs = #[cv] := by cases cargs; simp_all
          cases hr with | @str s l e2 hs =>
            refine (hc w s hs hGw).mono fun e w' ⟨ha, he⟩ => ?_
            subst he
            obtain ⟨k1, k2⟩ := hM.grow ha
            exact ⟨_, _, M, n, g, rfl, h, .str e2 hs, k1, k2⟩
        · obtain ⟨cv, e1, hr⟩ := hx.inv1
          obtain rfl : cargs = #[cv] := by cases cargs; simp_all
          cases hr with | @anys lo hi s h1 h2 hs =>
            refine (hc w s hs hGw).mono fun e w' ⟨ha, he⟩ => ?_
            subst he
            obtain ⟨k1, k2⟩ := hM.grow ha
            exact ⟨_, _, M, n, g, rfl, h, .anys h1 h2 hs, k1, k2⟩
        · cases h
      · replace h := bb_some h; obtain ⟨hx0, h⟩ := h
        obtain rfl : xs = [] := by simpa using hx0
        obtain rfl : cargs = #[] := by have := hx.inv0; simpa using this
        rw [newB_eq] at h
        refine (hc w hGw).mono fun e w' ⟨ha, x, cv, he, h1, h2, h3⟩ => ?_
        subst he
        obtain ⟨k1, k2⟩ := h3 (updG g n x) n updG_new
        obtain ⟨k3, k4⟩ := hM.adopt ha h1 h2 k2
        exact ⟨_, _, _, _, updG g n x, rfl, h, k1, k3, k4⟩
    · replace h := ob_some h; obtain ⟨fc, hfc, h⟩ := h
      obtain ⟨hf, hb, hname⟩ := bodyOf_some hfc
      refine ⟨hent hf hb hname, calls_of_wp hf hb ?_⟩
      unfold enterB at h
      obtain ⟨F, h, hF⟩ := argsK_some h
      have hlen : xs.length = cargs.size := by rw [hx.length]; simp
      have hget : ∀ t v, F.get t = some v → xs[t]? = some v := fun t v ht => by
        rcases hF t v ht with h1 | ⟨_, h1⟩
        · cases h1
        · simpa using h1
      refine codeB_wp (runB_good hG hkn d) fc.2 h hM ⟨?_, fun t v ht => ?_, rfl, fun t v ht => ?_⟩ fun e F' M' n' g' a' w' h1 h2 h3 h4 => ?_
      · simp [hlen]
      · obtain ⟨cv, h1, h2⟩ := hx.get (hget t v ht)
        have hlt : t < cargs.size := by have := (List.getElem?_eq_some_iff.1 h1).1; simpa using this
        rw [Array.getD_eq_getD_getElem?, Array.getElem?_append_left hlt, ← Array.getElem?_toList, h1]
        exact h2
      · have := (List.getElem?_eq_some_iff.1 (hget t v ht)).1
        omega
      · have fin : retB P F' M' n' fc.1.results.toList K = some r → a'.defers = [] ∧ ∃ v, (results fc.1 a'.tmps).run P w' = .ok v w' ∧ CallPost w0 g M w K r (.returned v) w' := fun h => by
          obtain ⟨v, cv, k1, k2, k3⟩ := ret_run hG h3 h2 h
          exact ⟨h2.defers, cv, k2, v, cv, M', n', g', rfl, k1, k3, h3, h4⟩
        cases e with
        | normal => exact fin h1
        | ret => exact fin h1
        | _ => cases h1⟩

/-- It comes to 'true'. -/
def isTrue : V → Mm → Nat → Option Unit := fun v _ _ => match v with
  | .bool true => some ()
  | _ => none
theorem rm_start (w : World) : RM w ⟨fun _ => none, 0⟩ .e 0 w := ⟨fun id b h => (by cases h), fun i j x y b c h => (by cases h), fun id x h => (by cases h), Nat.le_refl _, fun _ _ => rfl, rfl, rfl, rfl, rfl⟩
/-- A call whose arguments are no memory. -/
theorem closed_call {kn : List (Nat × KS)} (hkn : Known P kn) {d f : Nat} {xs : List V} (h : runB P kn d f xs .e 0 isTrue = some ()) (w : World) (hG : GlobOk P w) {cargs : Array Value} (hx : RepL ⟨fun _ => none, 0⟩ xs cargs.toList) :
    Calls P f cargs w fun e w' => Aside w w' ∧ e = .returned (.bool true) := by
  refine ((runB_good hG hkn d).2 _ _ _ _ _ _ _ _ cargs h (rm_start w) hx).2.mono fun e w' he => ?_
  obtain ⟨v, cv, M', n', g', rfl, h1, h2, h3, h4⟩ := he
  unfold isTrue at h1
  split at h1
  · cases h2
    exact ⟨⟨h3.size, h3.old, h3.tape, h3.os, h3.output⟩, rfl⟩
  · cases h1
theorem known_nil : Known P [] := fun f k h => by cases h
theorem known_more {kn : List (Nat × KS)} (hkn : Known P kn) {f : Nat} {k : KS} (hb : (bodyOf P f).isSome = true) (h : KnOk P f k) : Known P ((f, k) :: kn) := fun g k' hk => by
  unfold knOf at hk
  split at hk
  · rename_i e
    have := Nat.eq_of_beq_eq_true e
    subst this
    injection hk with hk; subst hk
    obtain ⟨fc, hfc⟩ := Option.isSome_iff_exists.1 hb
    obtain ⟨h1, h2, h3⟩ := bodyOf_some hfc
    exact ⟨⟨fc.1, fc.2, h1, h2, h3⟩, h⟩
  · exact hkn g k' hk
/-- One that comes to true. -/
theorem known_tru {kn : List (Nat × KS)} (hkn : Known P kn) {d f : Nat} (hb : (bodyOf P f).isSome = true) (h : runB P kn d f [] .e 0 isTrue = some ()) : Known P ((f, .tru) :: kn) :=
  known_more hkn hb fun w hG => closed_call hkn h w hG (cargs := #[]) .nil

theorem sc_rep {a b : V} {g' : Env} {cv : Value} (h : sc a b = true) (hb : Rep g b cv) : Rep g' a cv ∧ c1 a = true := by
  unfold sc at h
  split at h
  · rw [eqL_eq, decide_eq_true_eq] at h
    subst h
    cases hb with | str h1 h2 => exact ⟨.str h1 h2, rfl⟩
  · simp only [Bool.and_eq_true, decide_eq_true_eq, eqI_eq] at h
    obtain ⟨rfl, rfl⟩ := h
    cases hb; exact ⟨.int _ _, rfl⟩
  · rename_i x y
    have : x = y := by simpa using h
    subst this
    cases hb; exact ⟨.bool _, rfl⟩
  · cases h
theorem eqTr_get : ∀ {c c' : T V} {k : Nat} {v : V}, eqTr c c' = true → c.get k = some v → ∃ u, c'.get k = some u ∧ sc v u = true
  | .e, .e, k, v, _, h => by cases h
  | .n l x r, .n l' x' r', k, v, he, h => by
    rw [eqTr, Bool.and_eq_true, Bool.and_eq_true] at he
    rw [T.get_n] at h ⊢
    split at h
    · rename_i hk
      rw [if_pos hk]
      subst h
      have := he.1.2
      cases x' with
      | none => cases this
      | some u => exact ⟨u, rfl, this⟩
    · rename_i hk
      rw [if_neg hk]
      split at h
      · rename_i hk1; rw [if_pos hk1]; exact eqTr_get he.1.1 h
      · rename_i hk1; rw [if_neg hk1]; exact eqTr_get he.2 h
  | .e, .n .., k, v, he, h => by simp [eqTr] at he
  | .n .., .e, k, v, he, h => by simp [eqTr] at he
/-- One that makes a slice of scalars. -/
theorem known_res {kn : List (Nat × KS)} (hkn : Known P kn) {d f o e l m : Nat} {ex : Bool} {c : T V} (hb : (bodyOf P f).isSome = true) (h : runB P kn d f [] .e 0 (isRes o e l m ex c) = some ()) : Known P ((f, .res (.sl 0 o e l none) (.cells m ex c)) :: kn) := by
  refine known_more hkn hb fun w hG => ?_
  refine ((runB_good hG hkn d).2 _ _ _ _ _ _ _ _ #[] h (rm_start w) .nil).2.mono fun en w' he => ?_
  obtain ⟨v, cv, M', n', g', rfl, h1, h2, h3, h4⟩ := he
  refine ⟨⟨h3.size, h3.old, h3.tape, h3.os, h3.output⟩, ?_⟩
  unfold isRes at h1
  split at h1
  · rename_i id o' e' l'
    replace h1 := bb_some h1; obtain ⟨hb1, h1⟩ := h1
    simp only [Bool.and_eq_true, Nat.beq_eq] at hb1
    obtain ⟨⟨rfl, rfl⟩, rfl⟩ := hb1
    replace h1 := ob_some h1; obtain ⟨b, hbk, h1⟩ := h1
    split at h1
    · rename_i n2 ex2 c2
      replace h1 := bb_some h1; obtain ⟨hb2, h1⟩ := h1
      simp only [Bool.and_eq_true, Nat.beq_eq, beq_iff_eq] at hb2
      obtain ⟨⟨rfl, rfl⟩, htr⟩ := hb2
      cases h2 with | @sl _ _ _ _ cap _ x p hg he hle hp hc =>
        obtain ⟨y, hy, hblk⟩ := h3.rep id _ hbk
        obtain rfl : x = y := by rw [hg] at hy; injection hy
        have hlt := h3.lt id x hg
        refine ⟨x, _, rfl, hlt.2.1, hlt.2.2, fun g id2 hg2 => ⟨.sl hg2 he hle hp hc, ?_⟩⟩
        obtain ⟨cs, ty, fr, b1, b2, b3, b4, b5, b6⟩ := hblk
        refine ⟨cs, ty, fr, b1, b2, b3, b4, b5, fun k v hk => ?_⟩
        obtain ⟨u, hu, hs⟩ := eqTr_get htr hk
        obtain ⟨k1, _, cv, k3, k4⟩ := b6 k u hu
        obtain ⟨k5, k6⟩ := sc_rep (g' := g) hs k4
        exact ⟨k1, k6, cv, k3, k5⟩
    · cases h1
  · cases h1
end Go.Eb
