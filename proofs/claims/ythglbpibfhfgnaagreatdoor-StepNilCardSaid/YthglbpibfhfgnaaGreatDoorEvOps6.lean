/-
Indexes, conversions; reading memory.
-/
import Derived.Test.YthglbpibfhfgnaaGreatDoorEvOps5
import Derived.Deep.MidRow
set_option linter.unusedVariables false
namespace Go.Ev
variable {Sp : FuncId → List AV → AV → List AV → Prop} {P : Program} {E : Env} {s : S} {a : Act} {w : World} {L : List Nat} {K : S → AV → Prop}

theorem idxAddr_did (hR : R E s a w L) {t : TypeId} {x i : AV} {cx ci : Value} (hx : Rep E x cx []) (hi : Rep E i ci []) (h : outW Sp (idxAddrO P s t x i) K) :
    DidG true E s a w L K ((Instr.indexAt t cx ci).run P w) := by
  unfold idxAddrO at h
  split at h
  · rename_i e hk; exact indexAddr_did hR hk hx hi h
  · rename_i n e hk
    have hu := kind_array hk
    unfold indexArrO at h
    split at h
    · rename_i id j k i
      obtain ⟨⟨h1, h0, h2, hsz⟩, hA⟩ := h
      cases hi
      cases hx with
      | @loc _ _ l b hg ho hb =>
        obtain ⟨q, hq⟩ := szT_info (P := P) (e := e) hsz
        have : (Instr.indexAt t (.pointer (some ⟨b, j, none⟩)) (.int k i)).run P w = .ok (.pointer (some ⟨b, j + i.toNat * szT P e, none⟩)) w := by
          have h3 : ¬ (n ≤ 1) := by omega
          simp [Instr.indexAt, asIntOf, run_underlying hu, Instr.sureAddr, h0, h2, run_sizeOf hq, szT, hq, addr_add]
        rw [this]
        exact did_ok hR hA (.loc hg ho hb)
    · exact h.elim
  · exact h.elim

theorem bytes_get (b : ByteArray) (i : Nat) (h : i < b.size) : b[i]? = some (b.data.toList.getD i 0) := by
  have : b[i]? = some b[i] := by simp [h]
  rw [this]
  congr 1
  have h' : i < b.data.toList.length := by simpa using h
  rw [List.getD_eq_getElem?_getD, List.getElem?_eq_getElem h']
  rfl

theorem index_did (hR : R E s a w L) {t : TypeId} {x i : AV} {cx ci : Value} (hx : Rep E x cx []) (hi : Rep E i ci []) (h : outW Sp (indexO s (kindT P t) x i) K) :
    DidG true E s a w L K ((Instr.index t cx ci).run P w) := by
  unfold indexO at h
  split at h
  · rename_i b k i hk
    obtain ⟨⟨h0, h1⟩, hA⟩ := h
    cases hi
    cases hx with
    | str _ hs =>
      have e1 : b[i.toNat]? = some (b.data.toList.getD i.toNat 0) := bytes_get b _ (by omega)
      have : (Instr.index t (.string b) (.int k i)).run P w = .ok (.int .u8 ((b.data.toList.getD i.toNat 0).toNat : Int)) w := by
        simp only [Instr.index, asIntOf, Sem.run_bind, Sem.run_pure, Result.andThen_ok, run_underlying (kind_str hk), if_pos h0, e1]
      rw [this]
      exact did_ok hR hA (.int _ _)
  · exact h.elim

theorem conv_did (hR : R E s a w L) {src dst : TypeId} {x : AV} {cx : Value} (hx : Rep E x cx []) (h : outW Sp (convO P s src dst x) K) : DidG true E s a w L K ((convert src dst cx).run P w) := by
  unfold convO at h
  split at h
  · rename_i k' k k'' n h1 h2
    cases hx
    have : (convert src dst (.int k'' n)).run P w = .ok (.int k (k.wrap n)) w := by
      simp [convert, run_underlying (kind_int h1), run_underlying (kind_int h2), Conv.intToInt]
    rw [this]
    exact did_ok hR h (.int _ _)
  · rename_i b h1 h2
    cases hx with
    | str _ hs =>
      have : (convert src dst (.string b)).run P w = .ok (.string b) w := by
        simp [convert, run_underlying (kind_str h1), run_underlying (kind_str h2)]
      rw [this]
      exact did_ok hR h (.str _ hs)
  · exact h.elim

theorem minmax_did (hR : R E s a w L) {mx : Bool} {ts : Array TypeId} {ty : TypeId} {x y : AV} {cx cy : Value} (hx : Rep E x cx []) (hy : Rep E y cy []) (h : outW Sp (minmaxO s mx x y) K) :
    DidG true E s a w L K ((if mx then Builtin.max_ ts ty #[cx, cy] else Builtin.min_ ts ty #[cx, cy] : Sem Value).run P w) := by
  unfold minmaxO at h
  split at h
  · rename_i k p k' q
    cases hx; cases hy
    cases mx
    · have : (Builtin.min_ ts ty #[.int k p, .int k' q]).run P w = .ok (.int k (if q < p then q else p)) w := by
        simp [Builtin.min_, Builtin.min2]
      simp only [Bool.false_eq_true, if_false] at h ⊢
      rw [this]
      exact did_ok hR h (.int _ _)
    · have : (Builtin.max_ ts ty #[.int k p, .int k' q]).run P w = .ok (.int k (if q > p then q else p)) w := by
        simp [Builtin.max_, Builtin.max2]
      simp only [if_true] at h ⊢
      rw [this]
      exact did_ok hR h (.int _ _)
  · exact h.elim

theorem opnds_eval (hR : R E s a w L) : ∀ {xs : List Operand} {vs : List AV}, opnds s xs = some vs → RepL E vs (xs.map a.eval) []
  | [], vs, h => by simp [opnds] at h; subst h; exact .nil
  | x :: xs, vs, h => by
    simp only [opnds, Option.bind_eq_some_iff, Option.map_eq_some_iff] at h
    obtain ⟨v, hv, us, hu, rfl⟩ := h
    exact .cons (l := []) (m := []) (hR.eval hv) (opnds_eval hR hu)

theorem opndsT_eval (hR : R E s a w L) : ∀ {xs : List Operand} {ts : List TypeId} {vs : List AV}, opndsT P s xs ts = some vs → RepL E vs (xs.map a.eval) []
  | [], _, vs, h => by simp [opndsT] at h; subst h; exact .nil
  | x :: xs, [], vs, h => by
    simp only [opndsT, Option.bind_eq_some_iff, Option.map_eq_some_iff] at h
    obtain ⟨v, hv, us, hu, rfl⟩ := h
    exact .cons (l := []) (m := []) (hR.eval hv) (opndsT_eval hR hu)
  | x :: xs, t :: ts, vs, h => by
    simp only [opndsT, Option.bind_eq_some_iff, Option.map_eq_some_iff] at h
    obtain ⟨v, hv, us, hu, rfl⟩ := h
    exact .cons (l := []) (m := []) ((hR.eval hv).nilT t) (opndsT_eval hR hu)

/-! ### Reading -/
theorem aggO_run {t : TypeId} {b : Bool} (h : aggO P t = some b) : (isAgg t).run P w = .ok b w := by
  unfold aggO at h
  split at h
  · rename_i hu; injection h with h; subst h; simp [isAgg, run_underlying hu]
  · rename_i hu; injection h with h; subst h; simp [isAgg, run_underlying hu]
  · rename_i d h1 h2 hu
    injection h with h; subst h
    cases d <;> first | (exact (h1 _ rfl).elim) | (exact (h2 _ _ rfl).elim) | simp [isAgg, run_underlying hu]
  · cases h

theorem cell_at {b o : Nat} : w.cell? ⟨b, o, none⟩ = cellAt w.heap b o := by
  unfold World.cell? cellAt
  cases w.heap[b]? with
  | none => rfl
  | some o => cases o <;> rfl

theorem loadVar_run {t : TypeId} {ag : Bool} (h : aggO P t = some ag) (hp : 0 < szT P t) {b o : Nat} {vs : List Value} (ha : At w.heap b o vs) (hl : vs.length = szT P t) :
    (loadVar t ⟨b, o, none⟩).run P w = .ok (if ag then .agg vs.toArray else vs.headD undef) w := by
  obtain ⟨i, hi⟩ := szT_info hp
  have hs : i.size = vs.length := by rw [hl]; simp [szT, hi]
  cases ag
  · unfold loadVar
    simp only [Sem.run_bind, aggO_run h, Result.andThen_ok, Bool.false_eq_true, if_false]
    cases vs with
    | nil => simp at hl; omega
    | cons v r =>
      have := ha 0 v rfl
      rw [Nat.add_zero] at this
      simp only [run_load, cell_at, this, List.headD_cons]
  · have hl := run_loadCells_list (P := P) w ⟨b, o, none⟩ vs fun j v hv => by rw [addr_add, cell_at]; exact ha j v hv
    simp [loadVar, aggO_run h, run_sizeOf hi, hs, hl]

theorem loadAt_run {t : TypeId} {ad : Addr} : (Instr.loadAt t (.pointer (some ad))).run P w = (loadVar t ad).run P w := by
  simp [Instr.loadAt, Instr.sureAddr]

theorem ofCells_rep {ag : Bool} {cs : List AV} {vs : List Value} (h : RepL E cs vs []) (hne : 0 < vs.length) : Rep E (ofCells ag cs) (if ag then .agg vs.toArray else vs.headD undef) [] := by
  cases ag
  · cases vs with
    | nil => simp at hne
    | cons v vs =>
      cases cs with
      | nil => cases h
      | cons c cs =>
        obtain ⟨v', vs', l1, l2, e, hl, h, _⟩ := h.inv
        injection e with e _
        subst e
        obtain ⟨rfl, rfl⟩ : l1 = [] ∧ l2 = [] := by simpa using hl.symm
        exact h
  · exact .agg (by simpa [ofCells] using h)
end Go.Ev
