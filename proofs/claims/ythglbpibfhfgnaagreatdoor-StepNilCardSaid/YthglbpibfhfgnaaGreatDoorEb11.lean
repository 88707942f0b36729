/-
The closed evaluator: regions in their own order.
-/
import Derived.Test.YthglbpibfhfgnaaGreatDoorEb10
import Derived.Orders
set_option linter.unusedVariables false
set_option linter.unusedSimpArgs false
namespace Go.Eb
variable {A : Type} {P : Program} {w0 : World} {g : Env} {F : Fr} {M : Mm} {n m : Nat} {a : Act} {w : World} {r : A}

/-- Slots of a list stand for what is in the frame. -/
def SlotR (g : Env) (F : Fr) (a : Act) (ts : List Nat) : Prop := ∀ t ∈ ts, ∀ v, F.get t = some v → Rep g v (a.tmps.getD t undef)
theorem SlotR.ev {xs : List Operand} {ts : List Nat} (h : SlotR g F a ts) (hs : ∀ t, Operand.tmp t ∈ xs → t ∈ ts) : EvR g F a xs := fun x hx v hv => by
  cases x with
  | tmp t => exact h t (hs t hx) v hv
  | func f => simp only [opnd, Option.some.injEq] at hv; subst hv; exact .clo .nil
  | global k => simp only [opnd, Option.some.injEq] at hv; subst hv; exact .glob k
  | const c => exact ofV_rep hv
theorem tmps_mem {all : List Oper} {o : Oper} {t : Nat} (h : Operand.tmp t ∈ o.op.operands.toList) : t ∈ tmpsOf all o := by
  unfold tmpsOf
  exact List.mem_append_left _ (List.mem_filterMap.2 ⟨_, h, rfl⟩)

theorem guardB_run {ops : Array Oper} {o : Oper} {b : Bool} (hs : SlotR g F a (tmpsOf ops.toList o)) (h : guardB ops.toList F o.guard = some b) : Region.wanted o (yielded ops a.tmps) = b := by
  unfold guardB at h
  unfold Region.wanted
  split at h
  · rename_i hg; rw [hg]; injection h
  · rename_i gd hg
    rw [hg]
    obtain ⟨j, want⟩ := gd
    replace h := ob_some h; obtain ⟨d, hd, h⟩ := h
    replace h := ob_some h; obtain ⟨v, hv, h⟩ := h
    have hd' : (ops[j]?).bind (·.dst) = some d := by unfold dstAt at hd; rwa [Array.getElem?_toList] at hd
    have hrep := hs d (by unfold tmpsOf guardSlot; rw [hg]; exact List.mem_append_right _ (by simp [hd])) v hv
    have hy : yielded ops a.tmps j = match a.tmps[d]? with | some (.bool b) => some b | _ => none := by unfold yielded; rw [hd']; rfl
    show (yielded ops a.tmps j == some want) = b
    rw [hy]
    rw [Array.getD_eq_getD_getElem?] at hrep
    unfold guardIs at h
    split at h
    · rename_i c
      injection h with h
      cases hx : a.tmps[d]? with
      | none => rw [hx] at hrep; cases hrep
      | some x => rw [hx] at hrep; cases hrep; subst h; cases c <;> cases want <;> rfl
    · injection h with h
      subst h
      cases hx : a.tmps[d]? with
      | none => simp
      | some x => rw [hx] at hrep; cases hrep; simp
    · cases h

/-- One operation. -/
theorem oper_wp {call : CallT A} (hcall : CallGood P w0 call) {ops : Array Oper} {o : Oper} {K : V → Mm → Nat → Option A} {next : Act → World → Prop} {Q : Exit → Act → World → Prop}
    (hM : RM w0 g M n w) (hs : SlotR g F a (tmpsOf ops.toList o)) (h : operB P call ops.toList o F M n K = some r)
    (hn : ∀ v M' n' g' w' cv, K v M' n' = some r → Rep g' v cv → RM w0 g' M' n' w' → Mv g M w g' M' w' → (isStill P o.op = true → w' = w ∧ M' = M ∧ n' = n ∧ g' = g) → next (a.put o.dst cv) w') :
    if Region.wanted o (yielded ops a.tmps) then o.wp P a w next Q ∨ (o.asks P a w ∧ LetsOut Q) else next (a.put o.dst undef) w := by
  unfold operB at h
  replace h := ob_some h; obtain ⟨b, hb, h⟩ := h
  rw [guardB_run hs hb]
  cases b with
  | false => exact hn _ _ _ _ _ _ h (.tup .nil) hM (.refl g M w) fun _ => ⟨rfl, rfl, rfl, rfl⟩
  | true =>
    refine .inl ?_
    unfold Oper.wp
    cases op_res hcall hM (hs.ev fun t ht => tmps_mem ht) h with
    | still hK hr hv => rw [hr]; exact hn _ _ _ _ _ _ hK hv hM (.refl g M w) fun _ => ⟨rfl, rfl, rfl, rfl⟩
    | value hst hK hr hv hM' hm => rw [hr]; exact hn _ _ _ _ _ _ hK hv hM' hm fun e => by rw [hst] at e; cases e
    | skip hst hK hr hM' hm => rw [hr]; exact hn _ _ _ _ _ _ hK (.tup .nil) hM' hm fun e => by rw [hst] at e; cases e
    | call hst hr hc =>
      rw [hr, Oper.upon_enter]
      refine Calls.mono hc fun e w' he => ?_
      obtain ⟨v, cv, M', n', g', rfl, hK, hv, hM', hm⟩ := he
      exact hn _ _ _ _ _ _ hK hv hM' hm fun e => by rw [hst] at e; cases e

theorem RF.slots (h : RF g F m a) (ts : List Nat) : SlotR g F a ts := fun t _ v hv => h.tmp t v hv
theorem RF.putO (h : RF g F m a) {d : Option Tmp} {v : V} {cv : Value} {K : Fr → Option A} (hv : Rep g v cv) (hp : putK m F d v K = some r) : ∃ F', K F' = some r ∧ RF g F' m (a.put d cv) := by
  unfold putK at hp
  split at hp
  · rename_i d
    replace hp := bb_some hp; obtain ⟨hb, hp⟩ := hp
    rw [T.setK_set] at hp
    exact ⟨_, hp, h.put (Nat.le_of_ble_eq_true hb) hv⟩
  · exact ⟨F, hp, h⟩

/-- Operations one behind another. -/
theorem opsB_wp {call : CallT A} (hcall : CallGood P w0 call) {ops : Array Oper} {K : Fr → Mm → Nat → Option A} {Q : Exit → Act → World → Prop} : ∀ {suf pre : List Oper} {F : Fr} {M : Mm} {n : Nat} {g : Env} {a : Act} {w : World}, ops.toList = pre ++ suf →
    opsB P call m ops.toList suf F M n K = some r → RM w0 g M n w → RF g F m a →
    (∀ F' M' n' g' a' w', K F' M' n' = some r → RF g' F' m a' → RM w0 g' M' n' w' → Mv g M w g' M' w' → Q .normal a' w') →
    wpOps P ops Q (List.range' pre.length suf.length) a w
  | [], pre, F, M, n, g, a, w, _, h, hM, hF, hQ => hQ _ _ _ _ _ _ h hF hM (.refl g M w)
  | o :: suf, pre, F, M, n, g, a, w, he, h, hM, hF, hQ => by
    have ho : ops[pre.length]? = some o := by rw [← Array.getElem?_toList, he]; simp
    have h : operB P call ops.toList o F M n (fun v M n => putK m F o.dst v fun F => opsB P call m ops.toList suf F M n K) = some r := h
    rw [List.length_cons, List.range'_succ]
    unfold wpOps
    rw [ho]
    refine oper_wp hcall hM (hF.slots _) h fun v M' n' g' w' cv hK hv hM' hm _ => ?_
    obtain ⟨F', hK, hF'⟩ := (hF.mono hm.ext).putO hv hK
    have := opsB_wp (pre := pre ++ [o]) (ops := ops) (Q := Q) (a := a.put o.dst cv) (w := w') hcall (by simp [he]) hK hM' hF' fun F2 M2 n2 g2 a2 w2 h1 h2 h3 h4 => hQ F2 M2 n2 g2 a2 w2 h1 h2 h3 (hm.trans h4)
    simpa using this
/-- A region that does not draw. -/
theorem region_wp {call : CallT A} (hcall : CallGood P w0 call) {id : Nat} {ops : Array Oper} {K : Fr → Mm → Nat → Option A} {Q : Exit → Act → World → Prop} (h : opsB P call m ops.toList ops.toList F M n K = some r) (hM : RM w0 g M n w) (hF : RF g F m a)
    (hQ : ∀ F' M' n' g' a' w', K F' M' n' = some r → RF g' F' m a' → RM w0 g' M' n' w' → Mv g M w g' M' w' → Q .normal a' w') : (Code.region id ops false).wp P Q a w := by
  refine wp_region ?_
  have := opsB_wp (pre := []) hcall rfl h hM hF hQ
  simpa [List.range_eq_range'] using this
end Go.Eb
