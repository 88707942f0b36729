/-
Every operation; regions; code.
-/
import Derived.Test.YthglbpibfhfgnaaGreatDoorEvCall4
import Derived.Test.YthglbpibfhfgnaaGreatDoorEvMap2
set_option linter.unusedVariables false
set_option linter.unusedSimpArgs false
namespace Go.Ev
variable {Sp : FuncId → List AV → AV → List AV → Prop} {P : Program} {E : Env} {s : S} {a : Act} {w : World} {L : List Nat} {K : S → AV → Prop}

def Rel (E0 : Env) (w0 : World) (L0 : List Nat) (s : S) (a : Act) (w : World) : Prop := ∃ E L, R E s a w L ∧ Move E0 w0 L0 E w L
def Low (E0 : Env) (w0 : World) : Prop := ∀ fl b, E0.st fl b → b < w0.heap.size

variable {E0 : Env} {w0 : World} {L0 : List Nat} {o : Oper} {next : Act → World → Prop} {Q : Exit → Act → World → Prop}

/-- What the evaluation of an operation says of it. -/
inductive OpR (P : Program) (E : Env) (s : S) (a : Act) (w : World) (L : List Nat) (K : S → AV → Prop) (o : Oper) : Prop where
  | value {q : Bool} (m : Sem Value) (hrun : ∀ cv w', m.run P w = .ok cv w' → (execOp a.eval o).run P w = .ok (.value cv) w') (hq : stillO o.op = true → q = true) (hd : DidG q E s a w L K (m.run P w))
  | skip {s' : S} {E' : Env} {w' : World} {L' : List Nat} (hs : stillO o.op = false) (hK : K s' .undef) (hR : R E' s' a w' L') (hm : Move E w L E' w' L') (hrun : (execOp a.eval o).run P w = .ok .skip w')
  | call (hs : stillO o.op = false) (hd : DidC P E a w L K ((execOp a.eval o).run P w))
theorem val_t (m : Sem Value) (hrun : ∀ cv w', m.run P w = .ok cv w' → (execOp a.eval o).run P w = .ok (.value cv) w') (hd : DidG true E s a w L K (m.run P w)) : OpR P E s a w L K o := .value m hrun (fun _ => rfl) hd
theorem val_f (m : Sem Value) (hns : stillO o.op = false) (hrun : ∀ cv w', m.run P w = .ok cv w' → (execOp a.eval o).run P w = .ok (.value cv) w') (hd : Did E s a w L K (m.run P w)) : OpR P E s a w L K o := .value m hrun (fun h => by rw [hns] at h; cases h) hd

theorem lift_v {m : Sem Value} {cv : Value} {w' : World} (h : m.run P w = .ok cv w') : (do pure (Next.value (← m)) : Sem Next).run P w = .ok (.value cv) w' := by
  rw [Sem.run_bind, h]; rfl

theorem map_toArray {xs : Array Operand} (f : Operand → Value) : (xs.map f).toList = xs.toList.map f := by simp
theorem parts_toArray {xs : Array (Nat × Operand)} (f : Operand → Value) : (xs.toList.map fun p => (p.1, f p.2)).toArray = xs.map fun (i, x) => (i, f x) := by
  apply Array.toList_inj.1; simp

theorem array_of_toList {α : Type} {xs : Array α} {l : List α} (h : xs.toList = l) : xs = l.toArray := by subst h; rfl

theorem append_did (hR : R E s a w L) {t ty e : TypeId} (hk : kindT P t = .slice e) {x y : AV} {cx cy : Value} (hx : Rep E x cx []) (hy : Rep E y cy [])
    (h : outW Sp (appendO s (zok P e) (szT P e) (byT P e) x y) K) : Did E s a w L K ((Builtin.append_ #[t, t] ty #[cx, cy]).run P w) := by
  cases x
  case row id n off len =>
    simp only [appendO] at h
    obtain ⟨xsz, xs, hA, hsrc⟩ := els_src hR hy h
    obtain ⟨r, hr, hB⟩ := outW_okO hA
    obtain ⟨⟨hzk, rfl, rfl, rfl⟩, hC⟩ := hB
    exact appK_did hR hk hr hsrc hzk hx hC
  case rowc id n off len => exact appendC_did hR hk hx hy h
  all_goals exact h.elim

theorem builtin_did (hR : R E s a w L) {b : Builtin} {ts : Array TypeId} {ty : TypeId} {args : List AV} {cargs : Array Value} (ha : RepL E args cargs.toList []) (h : outW Sp (builtinO P b ts s args) K) :
    ∃ m : Sem Value, (∀ cs, builtin b ts ty cs cargs = (do pure (.value (← m)))) ∧ ∃ q, (b ≠ .append → q = true) ∧ DidG q E s a w L K (m.run P w) := by
  have two : ∀ {x y : AV}, args = [x, y] → ∃ cx cy, cargs = #[cx, cy] ∧ Rep E x cx [] ∧ Rep E y cy [] := by
    rintro x y rfl
    obtain ⟨cx, r1, l1, l2, e1, hl, h1, h2⟩ := ha.inv
    obtain ⟨cy, r2, l3, l4, rfl, hl2, h3, h4⟩ := h2.inv
    obtain ⟨rfl, rfl⟩ : l1 = [] ∧ l2 = [] := by simpa using hl.symm
    obtain ⟨rfl, rfl⟩ : l3 = [] ∧ l4 = [] := by simpa using hl2.symm
    cases h4
    exact ⟨cx, cy, array_of_toList e1, h1, h3⟩
  have one : ∀ {x : AV}, args = [x] → ∃ cx, cargs = #[cx] ∧ Rep E x cx [] := by
    rintro x rfl
    obtain ⟨cx, r1, l1, l2, e1, hl, h1, h2⟩ := ha.inv
    obtain ⟨rfl, rfl⟩ : l1 = [] ∧ l2 = [] := by simpa using hl.symm
    cases h2
    exact ⟨cx, array_of_toList e1, h1⟩
  unfold builtinO at h
  split at h
  · rename_i x
    obtain ⟨cx, rfl, hx⟩ := one rfl
    obtain ⟨t, ht, hA⟩ := outW_okO h
    unfold one1 at ht
    split at ht
    · rename_i t' hts
      injection ht with ht
      subst ht
      obtain rfl := array_of_toList hts
      exact ⟨_, fun _ => rfl, true, fun _ => rfl, len_did hR hx hA⟩
    · cases ht
  · rename_i x y
    obtain ⟨cx, cy, rfl, hx, hy⟩ := two rfl
    obtain ⟨t, ht, hA⟩ := outW_okO h
    obtain ⟨e, he, hB⟩ := outW_okO hA
    unfold two2 at ht
    split at ht
    · rename_i t' u hts
      split at ht
      · rename_i heq
        subst heq
        injection ht with ht
        subst ht
        obtain rfl := array_of_toList hts
        have hk : kindT P t' = .slice e := by
          unfold elemK at he
          split at he
          · rename_i e' hk; injection he with he; subst he; exact hk
          · cases he
        exact ⟨_, fun _ => rfl, false, fun h => absurd rfl h, append_did hR hk hx hy hB⟩
      · cases ht
    · cases ht
  · rename_i x y
    obtain ⟨cx, cy, rfl, hx, hy⟩ := two rfl
    have := minmax_did (P := P) (mx := false) (ts := ts) (ty := ty) hR hx hy h
    exact ⟨_, fun _ => rfl, true, fun _ => rfl, by simpa using this⟩
  · rename_i x y
    obtain ⟨cx, cy, rfl, hx, hy⟩ := two rfl
    have := minmax_did (P := P) (mx := true) (ts := ts) (ty := ty) hR hx hy h
    exact ⟨_, fun _ => rfl, true, fun _ => rfl, by simpa using this⟩
  · exact h.elim

theorem nilCheck_shape {x : AV} {cx : Value} (hx : Rep E x cx []) (h : outW Sp (nilCheckO s x) K) : (∃ p, cx = .pointer (some p)) ∨ ∃ f b c, cx = .func (.func f) b c := by
  unfold nilCheckO at h
  split at h
  · cases hx; exact .inl ⟨_, rfl⟩
  · cases hx with | elp hg ho hn hv h => exact .inl hv
  · cases hx; exact .inl ⟨_, rfl⟩
  · cases hx; exact .inr ⟨_, _, _, rfl⟩
  · exact h.elim

theorem op_did (hSp : ∀ f t r o, Sp f t r o → Spec P f t r o) (hR : R E s a w L) (h : outW Sp (opO P s o.type o.op) K) : OpR P E s a w L K o := by
  unfold opO at h
  split at h
  · -- move
    rename_i x ho
    obtain ⟨v, hv, hA⟩ := outW_okO h
    exact val_t (pure (a.eval x)) (fun cv w' hr => by simp only [execOp, ho]; simp only [Sem.run_pure, Result.ok.injEq] at hr ⊢; obtain ⟨rfl, rfl⟩ := hr; exact ⟨rfl, rfl⟩) (unf_did hR ((hR.eval hv).nilT _) hA)
  · -- assign
    rename_i x ho
    obtain ⟨v, hv, hA⟩ := outW_okO h
    exact val_t (pure (a.eval x)) (fun cv w' hr => by simp only [execOp, ho]; simp only [Sem.run_pure, Result.ok.injEq] at hr ⊢; obtain ⟨rfl, rfl⟩ := hr; exact ⟨rfl, rfl⟩) (unf_did hR ((hR.eval hv).nilT _) hA)
  · -- pick
    rename_i c x y ho
    obtain ⟨vc, hc, hA⟩ := outW_okO h
    obtain ⟨vx, hx, hB⟩ := outW_okO hA
    obtain ⟨vy, hy, hC⟩ := outW_okO hB
    refine val_t (do pure (if ← asBool (a.eval c) then a.eval x else a.eval y)) (fun cv w' hr => ?_) (pick_did hR (hR.eval hc) (hR.eval hx) (hR.eval hy) hC)
    simp only [execOp, ho]
    have := lift_v hr
    simpa [Sem.run_bind] using this
  · -- alloc
    rename_i e ho
    exact val_f _ (by rw [ho]; rfl) (fun cv w' hr => by simp only [execOp, ho]; exact lift_v hr) (alloc_did hR e h)
  · -- box
    rename_i t x ho
    obtain ⟨v, hv, hA⟩ := outW_okO h
    exact val_f _ (by rw [ho]; rfl) (fun cv w' hr => by simp only [execOp, ho]; exact lift_v hr) (box_did hR t (hR.eval hv) hA)
  · -- build
    rename_i t parts ho
    obtain ⟨fs, hfs, hA⟩ := outW_okO h
    obtain ⟨z, hz, hB⟩ := outW_okO hA
    obtain ⟨cs, hcs, hC⟩ := outW_okO hB
    obtain ⟨hfo, hD⟩ := hC
    have := build_did hR hfs hz hfo hcs hD
    rw [parts_toArray] at this
    exact val_t _ (fun cv w' hr => by simp only [execOp, ho]; exact lift_v hr) this
  · -- load
    rename_i t p ho
    obtain ⟨v, hv, hA⟩ := outW_okO h
    exact val_t _ (fun cv w' hr => by simp only [execOp, ho]; exact lift_v hr) (load_did hR (hR.eval hv) hA)
  · -- store
    rename_i t p x ho
    obtain ⟨vp, hp, hA⟩ := outW_okO h
    obtain ⟨v, hv, hB⟩ := outW_okO hA
    obtain ⟨hpos, hC⟩ := hB
    obtain ⟨s', E', w', L', hK, hR', hm, hr⟩ := store_did hR hpos (hR.eval hp) ((hR.eval hv).nilT t) hC
    exact .skip (by rw [ho]; rfl) hK hR' hm (by simp only [execOp, ho]; rw [Sem.run_bind, hr]; rfl)
  · -- nilCheck
    rename_i x ho
    obtain ⟨v, hv, hA⟩ := outW_okO h
    obtain ⟨hd, _⟩ := nilCheck_did (P := P) hR (hR.eval hv) hA
    have hshape := nilCheck_shape (hR.eval hv) hA
    refine val_t (pure (a.eval x)) (fun cv w' hr => ?_) hd
    simp only [Sem.run_pure, Result.ok.injEq] at hr
    obtain ⟨rfl, rfl⟩ := hr
    simp only [execOp, ho]
    rcases hshape with ⟨p, hp⟩ | ⟨f, b1, b2, hp⟩ <;> rw [hp] <;> rfl
  · -- binOp
    rename_i op t x y pos ho
    obtain ⟨vx, hx, hA⟩ := outW_okO h
    obtain ⟨vy, hy, hB⟩ := outW_okO hA
    exact val_t _ (fun cv w' hr => by simp only [execOp, ho]; exact lift_v hr) (bin_did (ox := x) (oy := y) hR (hR.eval hx) (hR.eval hy) hB)
  · rename_i op pos x ho
    obtain ⟨v, hv, hA⟩ := outW_okO h
    exact val_t _ (fun cv w' hr => by simp only [execOp, ho]; exact lift_v hr) (un_did hR (hR.eval hv) hA)
  · rename_i src dst x ho
    obtain ⟨v, hv, hA⟩ := outW_okO h
    exact val_t _ (fun cv w' hr => by simp only [execOp, ho]; exact lift_v hr) (conv_did hR (hR.eval hv) hA)
  · -- makeFunc
    rename_i f first caps ho
    obtain ⟨vs, hvs, hA⟩ := outW_okO h
    obtain ⟨hfirst, hB⟩ := hA
    have hfe : first = #[] := array_of_toList hfirst
    subst hfe
    have hrep : Rep E (.clo f vs) (.func (.func f) #[] (caps.map a.eval)) [] := .clo (by rw [map_toArray]; exact opnds_eval hR hvs)
    exact val_t (Instr.makeFunc (.func f) #[] (caps.map a.eval)) (fun cv w' hr => by simp only [execOp, ho]; exact lift_v (by simpa using hr)) (did_ok hR hB hrep)
  · -- fieldAddr
    rename_i t x f ho
    obtain ⟨v, hv, hA⟩ := outW_okO h
    exact val_t _ (fun cv w' hr => by simp only [execOp, ho]; exact lift_v hr) (fieldAddr_did hR (hR.eval hv) hA)
  · obtain ⟨v, hv, hA⟩ := outW_okO h
    exact hA.elim
  · rename_i t x i ho
    obtain ⟨vx, hx, hA⟩ := outW_okO h
    obtain ⟨vi, hi, hB⟩ := outW_okO hA
    exact val_t _ (fun cv w' hr => by simp only [execOp, ho]; exact lift_v hr) (idxAddr_did hR (hR.eval hx) (hR.eval hi) hB)
  · rename_i t x i ho
    obtain ⟨vx, hx, hA⟩ := outW_okO h
    obtain ⟨vi, hi, hB⟩ := outW_okO hA
    exact val_t _ (fun cv w' hr => by simp only [execOp, ho]; exact lift_v hr) (index_did hR (hR.eval hx) (hR.eval hi) hB)
  · rename_i t x lo hi mx ho
    obtain ⟨vx, hx, hA⟩ := outW_okO h
    exact val_t _ (fun cv w' hr => by simp only [execOp, ho]; exact lift_v hr) (slice_did hR (hR.eval hx) hA)
  · rename_i x i ho
    obtain ⟨v, hv, hA⟩ := outW_okO h
    exact val_t _ (fun cv w' hr => by simp only [execOp, ho]; exact lift_v hr) (extract_did hR (hR.eval hv) hA)
  · -- buildSlice
    rename_i t n parts ho
    obtain ⟨fs, hfs, hA⟩ := outW_okO h
    obtain ⟨e, he, hB⟩ := outW_okO hA
    have hk : kindT P t = .slice e := by
      unfold elemK at he
      split at he
      · rename_i e' hk; injection he with he; subst he; exact hk
      · cases he
    have := buildSlice_did hR hk hfs hB
    rw [parts_toArray] at this
    exact val_f _ (by rw [ho]; rfl) (fun cv w' hr => by simp only [execOp, ho]; exact lift_v hr) this
  · -- makeMap
    rename_i t x ho
    obtain ⟨kk, hkk, hA⟩ := outW_okO h
    obtain ⟨v, hv, hB⟩ := outW_okO hA
    obtain ⟨n, hn, hC⟩ := outW_okO hB
    exact val_f _ (by rw [ho]; rfl) (fun cv w' hr => by simp only [execOp, ho]; exact lift_v hr) (makeMap_did hR (makeMap_runS hkk (hR.eval hv) hn) hC)
  · rename_i t ho
    exact val_f _ (by rw [ho]; rfl) (fun cv w' hr => by simp only [execOp, ho]; exact lift_v hr) (makeMap_did hR (makeMap_run (t := t)) h)
  · -- mapUpdate
    rename_i t m k x ho
    obtain ⟨vm, hm, hA⟩ := outW_okO h
    obtain ⟨vk, hk, hB⟩ := outW_okO hA
    obtain ⟨v, hv, hC⟩ := outW_okO hB
    obtain ⟨kk, hkk, hD⟩ := outW_okO hC
    obtain ⟨lk, hlk, hF⟩ := outW_okO hD
    obtain ⟨s', E', w', L', hK, hR', hm', hr⟩ := mapSet_did hR (hR.eval hm) (hR.eval hk) ((hR.eval hv).nilT kk.2) hkk hlk hF
    exact .skip (by rw [ho]; rfl) hK hR' hm' (by simp only [execOp, ho]; rw [Sem.run_bind, hr]; rfl)
  · -- lookup
    rename_i t m k ok ho
    obtain ⟨vm, hm, hA⟩ := outW_okO h
    obtain ⟨vk, hk, hB⟩ := outW_okO hA
    obtain ⟨r, hr, hC⟩ := outW_okO hB
    obtain ⟨kk, hkk, hD⟩ := outW_okO hC
    obtain ⟨lk, hlk, hF⟩ := outW_okO hD
    obtain ⟨v, hv, hz, hG⟩ := outW_okO hF
    exact val_t _ (fun cv w' hr => by simp only [execOp, ho]; exact lift_v hr) (lookup_did hR (hR.eval hm) (hR.eval hk) hr hkk hlk hv hz.1 hG)
  · -- builtin
    rename_i b args argTypes ho
    obtain ⟨vs, hvs, hA⟩ := outW_okO h
    obtain ⟨m, hm, q, hq, hd⟩ := builtin_did (ty := o.type) hR (cargs := args.map a.eval) (by rw [map_toArray]; exact opnds_eval hR hvs) hA
    refine .value m (fun cv w' hr => ?_) (fun hs => hq (by rintro rfl; rw [ho] at hs; exact absurd hs (by simp [stillO]))) hd
    simp only [execOp, ho, resolve, Sem.run_bind, Sem.run_pure, Result.andThen_ok, invoke]
    rw [hm]
    exact lift_v hr
  · -- call
    rename_i f args argTypes ho
    obtain ⟨vf, hf, hA⟩ := outW_okO h
    obtain ⟨vs, hvs, hB⟩ := outW_okO hA
    have hd := call_did hSp hR (hR.eval hf) (cvs := args.map a.eval) (by rw [map_toArray]; exact opndsT_eval hR hvs) hB
    refine .call (by rw [ho]; rfl) ?_
    simp only [execOp, ho, resolve]
    exact hd
  · exact h.elim

theorem op_wp (hSp : ∀ f t r o, Sp f t r o → Spec P f t r o) (hR : R E s a w L) (h0 : Low E0 w0) (hS : Move E0 w0 L0 E w L) (h : outW Sp (opO P s o.type o.op) K)
    (hn : ∀ s' v a' w', K s' v → Rel E0 w0 L0 (s'.put o.dst v) a' w' → next a' w') : o.wp P a w next Q := by
  unfold Oper.wp
  cases op_did hSp hR h with
  | value m hrun hq hd =>
    obtain ⟨s', v, E', w', L', cv, hK, hR', hm, hv, hr, _⟩ := hd
    rw [hrun cv w' hr, Oper.upon_value]
    exact hn s' v _ _ hK ⟨E', L', hR'.put hv, hS.trans hm h0 hS.own.off⟩
  | skip hs hK hR' hm hrun =>
    rw [hrun, Oper.upon_skip]
    exact hn _ .undef _ _ hK ⟨_, _, hR'.put (.undef _), hS.trans hm h0 hS.own.off⟩
  | call hs hd =>
    obtain ⟨g, cargs, hrun, hcalls⟩ := hd
    rw [hrun, Oper.upon_enter]
    refine hcalls.mono fun e w' he => ?_
    obtain ⟨cv, rfl, s', v, E', L', hK, hR', hm, hv⟩ := he
    exact hn s' v _ _ hK ⟨E', L', hR'.put hv, hS.trans hm h0 hS.own.off⟩

/-- An operation that reads alone, ahead of those that write. -/
theorem op_still (hSp : ∀ f t r o, Sp f t r o → Spec P f t r o) (hst : stillO o.op = true) (hR : R E s a w L) (h0 : Low E0 w0) (hS : Move E0 w0 L0 E w L) (h : outW Sp (opO P s o.type o.op) K) {next : Act → Prop}
    (hn : ∀ s' v a', K s' v → Rel E0 w0 L0 (s'.put o.dst v) a' w → next a') : o.still P a w next := by
  cases op_did hSp hR h with
  | value m hrun hq hd =>
    obtain ⟨s', v, E', w', L', cv, hK, hR', hm, hv, hr, hw⟩ := hd
    obtain rfl := hw (hq hst)
    unfold Oper.still
    rw [hrun cv _ hr, Oper.stillUpon_value]
    exact hn s' v _ hK ⟨E', L', hR'.put hv, hS.trans hm h0 hS.own.off⟩
  | skip hs _ _ _ _ => rw [hst] at hs; cases hs
  | call hs _ => rw [hst] at hs; cases hs

/-- An operation that reads alone, in a region that draws. -/
theorem op_quiet (hSp : ∀ f t r o, Sp f t r o → Spec P f t r o) (hst : stillO o.op = true) (hR : R E s a w L) (h0 : Low E0 w0) (hS : Move E0 w0 L0 E w L) (h : outW Sp (opO P s o.type o.op) K) {next : Act → Prop}
    (hn : ∀ s' v a', K s' v → Rel E0 w0 L0 (s'.put o.dst v) a' w → next a') : o.quiet P a (fun w' => w' = w) next := by
  cases op_did hSp hR h with
  | value m hrun hq hd =>
    obtain ⟨s', v, E', w', L', cv, hK, hR', hm, hv, hr, hw⟩ := hd
    obtain rfl := hw (hq hst)
    refine ⟨cv, ?_, hn s' v _ hK ⟨E', L', hR'.put hv, hS.trans hm h0 hS.own.off⟩⟩
    rintro _ rfl
    unfold Oper.quietAt
    rw [hrun cv _ hr]
    exact ⟨rfl, rfl⟩
  | skip hs _ _ _ _ => rw [hst] at hs; cases hs
  | call hs _ => rw [hst] at hs; cases hs
end Go.Ev
