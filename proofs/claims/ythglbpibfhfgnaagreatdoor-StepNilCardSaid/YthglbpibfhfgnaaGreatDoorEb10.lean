/-
The closed evaluator: every operation.
-/
import Derived.Test.YthglbpibfhfgnaaGreatDoorEbMore
import Derived.Test.YthglbpibfhfgnaaGreatDoorEvOp
set_option linter.unusedVariables false
set_option linter.unusedSimpArgs false
namespace Go.Eb
open Go.Ev (szT byT aggO offT fszT TK kindT elemK zok LK leavesT openB lift_v map_toArray parts_toArray array_of_toList)
variable {A : Type} {P : Program} {w0 : World} {g : Env} {F : Fr} {M : Mm} {n m : Nat} {a : Act} {w : World} {K : V → Mm → Nat → Option A} {r : A}

/-- What is behind a call. -/
def CallPost (w0 : World) (g : Env) (M : Mm) (w : World) (K : V → Mm → Nat → Option A) (r : A) : Ending → World → Prop := fun e w' =>
  ∃ v cv M' n' g', e = .returned cv ∧ K v M' n' = some r ∧ Rep g' v cv ∧ RM w0 g' M' n' w' ∧ Mv g M w g' M' w'
def CallGood (P : Program) (w0 : World) (call : CallT A) : Prop := GlobOk P w0 ∧ ∀ (f : FuncId) (xs : List V) (M : Mm) (n : Nat) (K : V → Mm → Nat → Option A) (r : A) (g : Env) (w : World) (cargs : Array Value),
  call f xs M n K = some r → RM w0 g M n w → RepL g xs cargs.toList → (callFunc f cargs).run P w = .ok (.enter f cargs) w ∧ Calls P f cargs w (CallPost w0 g M w K r)

inductive OpRes (P : Program) (w0 : World) (g : Env) (M : Mm) (n : Nat) (w : World) (K : V → Mm → Nat → Option A) (r : A) (st : Bool) (res : Result Next) : Prop where
  | still {v : V} {cv : Value} (hK : K v M n = some r) (hr : res = .ok (.value cv) w) (hv : Rep g v cv)
  | value {v : V} {M' : Mm} {n' : Nat} {g' : Env} {w' : World} {cv : Value} (hs : st = false) (hK : K v M' n' = some r) (hr : res = .ok (.value cv) w') (hv : Rep g' v cv) (hM : RM w0 g' M' n' w') (hm : Mv g M w g' M' w')
  | skip {M' : Mm} {n' : Nat} {w' : World} (hs : st = false) (hK : K (.tup []) M' n' = some r) (hr : res = .ok .skip w') (hM : RM w0 g M' n' w') (hm : Mv g M w g M' w')
  | call {f : FuncId} {cargs : Array Value} (hs : st = false) (hr : res = .ok (.enter f cargs) w) (hc : Calls P f cargs w (CallPost w0 g M w K r))

theorem Did.res {s : Sem Value} {q : Sem Next} {st : Bool} (h : Did w0 g M w K r (s.run P w)) (hst : st = false) (hq : ∀ cv w', s.run P w = .ok cv w' → q.run P w = .ok (.value cv) w') : OpRes P w0 g M n w K r st (q.run P w) := by
  obtain ⟨v, M', n', g', w', cv, h1, h2, h3, h4, h5⟩ := h
  exact .value hst h1 (hq _ _ h2) h3 h4 h5
theorem DidS.res {s : Sem Value} {q : Sem Next} {st : Bool} (h : DidS w0 g M n w K r (s.run P w)) (hq : ∀ cv w', s.run P w = .ok cv w' → q.run P w = .ok (.value cv) w') : OpRes P w0 g M n w K r st (q.run P w) := by
  obtain ⟨v, cv, h1, h2, h3, h4⟩ := h
  exact .still h1 (hq _ _ h2) h3

theorem callB_res {call : CallT A} (hcall : CallGood P w0 call) (hM : RM w0 g M n w) {f : V} {xs : List V} {cf : Value} {cvs : Array Value} (hf : Rep g f cf) (hxs : RepL g xs cvs.toList) (h : callB P call M n f xs K = some r) :
    OpRes P w0 g M n w K r false ((do let d ← Deferred.ofValue cf cvs; invoke d.target d.args : Sem Next).run P w) := by
  unfold callB at h
  split at h
  · rename_i k caps
    cases hf with | @clo _ _ ccaps hcaps =>
      have hall : RepL g (xs ++ caps) (cvs ++ ccaps).toList := by
        have := hxs.append hcaps
        simpa using this
      have hgo : (do let d ← Deferred.ofValue (.func (.func k) #[] ccaps) cvs; invoke d.target d.args : Sem Next).run P w = (callFunc k (cvs ++ ccaps)).run P w := by
        simp only [Deferred.ofValue, Sem.run_bind, Sem.run_pure, Result.andThen_ok, invoke, Array.empty_append]
      rw [hgo]
      split at h
      · rename_i e he
        obtain ⟨v, cv, h1, h2, h3⟩ := ext_res hM he hall h
        exact .still h1 h2 h3
      · obtain ⟨h1, h2⟩ := hcall.2 _ _ _ _ _ _ _ _ _ h hM hall
        exact .call rfl h1 h2
  · cases h

theorem builtinB_did (hM : RM w0 g M n w) {b : Builtin} {ts : Array TypeId} {ty : TypeId} {xs : List V} {cxs : Array Value} (hx : RepL g xs cxs.toList) (h : builtinB P M n b ts.toList xs K = some r) :
    ∃ s : Sem Value, (∀ cs, builtin b ts ty cs cxs = (do pure (.value (← s)))) ∧ (DidS w0 g M n w K r (s.run P w) ∨ (b ≠ .len ∧ b ≠ .min ∧ b ≠ .max ∧ Did w0 g M w K r (s.run P w))) := by
  have two : ∀ {x y : V}, xs = [x, y] → ∃ cx cy, cxs = #[cx, cy] ∧ Rep g x cx ∧ Rep g y cy := by
    rintro x y rfl
    obtain ⟨cx, cy, e, h1, h2⟩ := hx.inv2
    exact ⟨cx, cy, array_of_toList e, h1, h2⟩
  have one : ∀ {x : V}, xs = [x] → ∃ cx, cxs = #[cx] ∧ Rep g x cx := by
    rintro x rfl
    obtain ⟨cx, e, h1⟩ := hx.inv1
    exact ⟨cx, array_of_toList e, h1⟩
  unfold builtinB at h
  split at h
  · rename_i t x hts
    obtain ⟨cx, rfl, hx1⟩ := one rfl
    obtain rfl := array_of_toList hts
    exact ⟨_, fun _ => rfl, .inl (lenB_did hM hx1 h)⟩
  · rename_i t u x y hts
    obtain ⟨cx, cy, rfl, hx1, hy⟩ := two rfl
    obtain rfl := array_of_toList hts
    replace h := bb_some h; obtain ⟨hb, h⟩ := h
    replace h := ob_some h; obtain ⟨e, he, h⟩ := h
    exact ⟨_, fun _ => rfl, .inr ⟨by simp, by simp, by simp, appendB_did hM he hb hx1 hy h⟩⟩
  · rename_i t u x y hts
    obtain ⟨cx, cy, rfl, hx1, hy⟩ := two rfl
    obtain rfl := array_of_toList hts
    replace h := ob_some h; obtain ⟨e, he, h⟩ := h
    exact ⟨_, fun _ => rfl, .inr ⟨by simp, by simp, by simp, copyB_did hM he hx1 hy h⟩⟩
  · rename_i t x hts
    obtain ⟨cx, rfl, hx1⟩ := one rfl
    obtain rfl := array_of_toList hts
    exact ⟨_, fun _ => rfl, .inr ⟨by simp, by simp, by simp, clearB_did hM hx1 h⟩⟩
  · rename_i t u x y hts
    obtain ⟨cx, cy, rfl, hx1, hy⟩ := two rfl
    obtain rfl := array_of_toList hts
    exact ⟨_, fun _ => rfl, .inr ⟨by simp, by simp, by simp, deleteB_did hM hx1 hy h⟩⟩
  · rename_i x y
    obtain ⟨cx, cy, rfl, hx1, hy⟩ := two rfl
    have := minmaxB_did (P := P) (mx := false) (ts := ts) (ty := ty) hM hx1 hy h
    exact ⟨_, fun _ => rfl, .inl (by simpa using this)⟩
  · rename_i x y
    obtain ⟨cx, cy, rfl, hx1, hy⟩ := two rfl
    have := minmaxB_did (P := P) (mx := true) (ts := ts) (ty := ty) hM hx1 hy h
    exact ⟨_, fun _ => rfl, .inl (by simpa using this)⟩
  · rename_i t x hts
    obtain ⟨cx, rfl, hx1⟩ := one rfl
    obtain rfl := array_of_toList hts
    exact ⟨_, fun _ => rfl, .inl (capB_did hM hx1 h)⟩
  · cases h

theorem nilCheck_shape {x : V} {cx : Value} (hx : Rep g x cx) (h : nilCheckB M n x K = some r) : (∃ p, cx = .pointer (some p)) ∨ ∃ f b c, cx = .func (.func f) b c := by
  unfold nilCheckB at h
  split at h
  · cases hx; exact .inl ⟨_, rfl⟩
  · cases hx; exact .inr ⟨_, _, _, rfl⟩
  · cases h

theorem op_res {call : CallT A} (hcall : CallGood P w0 call) (hM : RM w0 g M n w) {o : Oper} (hF : EvR g F a o.op.operands.toList) (h : opB P call F M n o.op K = some r) : OpRes P w0 g M n w K r (isStill P o.op) ((execOp a.eval o).run P w) := by
  unfold opB at h
  split at h
  · rename_i x ho
    replace h := ob_some h; obtain ⟨v, hv, h⟩ := h
    exact .still h (by simp only [execOp, ho, Sem.run_pure]) (hF x (by rw [ho]; simp [Op.operands]) _ hv)
  · rename_i x ho
    replace h := ob_some h; obtain ⟨v, hv, h⟩ := h
    exact .still h (by simp only [execOp, ho, Sem.run_pure]) (hF x (by rw [ho]; simp [Op.operands]) _ hv)
  · rename_i c x y ho
    refine (pick_did (P := P) hM (hF.sub (by rw [ho]; simp [Op.operands])) h).res fun cv w' hr => ?_
    simp only [execOp, ho]
    have := lift_v hr
    simpa [Sem.run_bind] using this
  · rename_i e ho
    exact (allocB_did hM h).res (by rw [ho]; rfl) fun cv w' hr => by simp only [execOp, ho]; exact lift_v hr
  · rename_i t x ho
    replace h := ob_some h; obtain ⟨v, hv, h⟩ := h
    exact (boxB_did hM (hF x (by rw [ho]; simp [Op.operands]) _ hv) h).res (by rw [ho]; rfl) fun cv w' hr => by simp only [execOp, ho]; exact lift_v hr
  · rename_i t ps ho
    have := buildB_did (a := a) hM (hF.sub (by rw [ho]; simp [Op.operands])) h
    rw [parts_toArray] at this
    exact this.res fun cv w' hr => by simp only [execOp, ho]; exact lift_v hr
  · rename_i t l ps ho
    have := buildSliceB_did (a := a) hM (hF.sub (by rw [ho]; simp [Op.operands])) h
    rw [parts_toArray] at this
    exact this.res (by rw [ho]; rfl) fun cv w' hr => by simp only [execOp, ho]; exact lift_v hr
  · rename_i t p ho
    replace h := ob_some h; obtain ⟨v, hv, h⟩ := h
    exact (loadB_did hcall.1 hM (hF p (by rw [ho]; simp [Op.operands]) _ hv) h).res fun cv w' hr => by simp only [execOp, ho]; exact lift_v hr
  · rename_i t p x ho
    replace h := ob_some h; obtain ⟨vp, hp, h⟩ := h
    replace h := ob_some h; obtain ⟨v, hv, h⟩ := h
    obtain ⟨M', n', w', hK, hr, hM', hm⟩ := storeB_did (P := P) hM (hF p (by rw [ho]; simp [Op.operands]) _ hp) (hF x (by rw [ho]; simp [Op.operands]) _ hv) h
    exact .skip (by rw [ho]; rfl) hK (by simp only [execOp, ho]; rw [Sem.run_bind, hr]; rfl) hM' hm
  · rename_i x ho
    replace h := ob_some h; obtain ⟨v, hv, h⟩ := h
    have hshape := nilCheck_shape (hF x (by rw [ho]; simp [Op.operands]) _ hv) h
    refine (DidS.res (s := pure (a.eval x)) (by simpa using (nilCheckB_did (P := P) hM (hF x (by rw [ho]; simp [Op.operands]) _ hv) h).1) fun cv w' hr => ?_)
    simp only [Sem.run_pure, Result.ok.injEq] at hr
    obtain ⟨rfl, rfl⟩ := hr
    simp only [execOp, ho]
    rcases hshape with ⟨p, hp⟩ | ⟨f, b1, b2, hp⟩ <;> rw [hp] <;> rfl
  · rename_i op t x y pos ho
    replace h := ob_some h; obtain ⟨vx, hx, h⟩ := h
    replace h := ob_some h; obtain ⟨vy, hy, h⟩ := h
    split at h
    · rename_i hi
      exact (ifcB_did (ox := x) (oy := y) hM hi (hF x (by rw [ho]; simp [Op.operands]) _ hx) (hF y (by rw [ho]; simp [Op.operands]) _ hy) h).res fun cv w' hr => by simp only [execOp, ho]; exact lift_v hr
    · exact (binB_did (ox := x) (oy := y) hM (hF x (by rw [ho]; simp [Op.operands]) _ hx) (hF y (by rw [ho]; simp [Op.operands]) _ hy) h).res fun cv w' hr => by simp only [execOp, ho]; exact lift_v hr
  · rename_i op t x ho
    replace h := ob_some h; obtain ⟨v, hv, h⟩ := h
    exact (unB_did hM (hF x (by rw [ho]; simp [Op.operands]) _ hv) h).res fun cv w' hr => by simp only [execOp, ho]; exact lift_v hr
  · rename_i s d x ho
    replace h := ob_some h; obtain ⟨v, hv, h⟩ := h
    rcases convB_did hM (hF x (by rw [ho]; simp [Op.operands]) _ hv) h with hd | ⟨⟨e, he⟩, hd⟩
    · exact hd.res fun cv w' hr => by simp only [execOp, ho]; exact lift_v hr
    · exact hd.res (by rw [ho]; simp [isStill, he]) fun cv w' hr => by simp only [execOp, ho]; exact lift_v hr
  · rename_i f first caps ho
    replace h := bb_some h; obtain ⟨hb, h⟩ := h
    replace h := opndsK_some h; obtain ⟨vs, hvs, h⟩ := h
    have hfe : first = #[] := by simpa using hb
    subst hfe
    have hrep : Rep g (.clo f vs) (.func (.func f) #[] (caps.map a.eval)) := .clo (by rw [map_toArray]; exact (hF.sub (by rw [ho]; simp [Op.operands])).evals hvs)
    exact .still h (by simp only [execOp, ho]; exact lift_v (by simp [Instr.makeFunc])) hrep
  · rename_i t ho
    exact (makeMap_did (s := Instr.makeMap t none) hM rfl h).res (by rw [ho]; rfl) fun cv w' hr => by simp only [execOp, ho]; exact lift_v hr
  · rename_i t x ho
    replace h := ob_some h; obtain ⟨q, hq, h⟩ := h
    replace h := ob_some h; obtain ⟨v, hv, h⟩ := h
    obtain ⟨kt, hu, hku⟩ := mapT_some hq
    split at h
    · rename_i k z
      have hrv := hF x (by rw [ho]; simp [Op.operands]) _ hv
      refine (makeMap_did (P := P) (s := Instr.makeMap t (some (a.eval x))) hM ?_ h).res (by rw [ho]; rfl) fun cv w' hr => by simp only [execOp, ho]; exact lift_v hr
      generalize a.eval x = cx at hrv
      cases hrv
      unfold Instr.makeMap
      simp only [Sem.run_bind, run_underlying hu, Result.andThen_ok, asInt, Sem.run_pure]
      rfl
    · cases h
  · rename_i t l c ho
    replace h := ob_some h; obtain ⟨e, he, h⟩ := h
    replace h := ob_some h; obtain ⟨vl, hl, h⟩ := h
    replace h := ob_some h; obtain ⟨vc, hc, h⟩ := h
    exact (makeSliceB_did hM he (hF l (by rw [ho]; simp [Op.operands]) _ hl) (hF c (by rw [ho]; simp [Op.operands]) _ hc) h).res (by rw [ho]; rfl) fun cv w' hr => by simp only [execOp, ho]; exact lift_v hr
  · rename_i t x lo hi mx ho
    replace h := ob_some h; obtain ⟨v, hv, h⟩ := h
    exact (sliceB_did hM (hF.sub (by rw [ho]; simp [Op.operands]; intro y hy; simp [hy])) (hF x (by rw [ho]; simp [Op.operands]) _ hv) h).res fun cv w' hr => by simp only [execOp, ho]; exact lift_v hr
  · rename_i t x f ho
    replace h := ob_some h; obtain ⟨v, hv, h⟩ := h
    exact (fieldB_did hM (hF x (by rw [ho]; simp [Op.operands]) _ hv) h).res fun cv w' hr => by simp only [execOp, ho]; exact lift_v hr
  · rename_i t x i ho
    replace h := ob_some h; obtain ⟨v, hv, h⟩ := h
    replace h := ob_some h; obtain ⟨vi, hi, h⟩ := h
    exact (indexAddrB_did hM (hF x (by rw [ho]; simp [Op.operands]) _ hv) (hF i (by rw [ho]; simp [Op.operands]) _ hi) h).res fun cv w' hr => by simp only [execOp, ho]; exact lift_v hr
  · rename_i t x i ho
    replace h := ob_some h; obtain ⟨v, hv, h⟩ := h
    replace h := ob_some h; obtain ⟨vi, hi, h⟩ := h
    exact (indexB_did hM (hF x (by rw [ho]; simp [Op.operands]) _ hv) (hF i (by rw [ho]; simp [Op.operands]) _ hi) h).res fun cv w' hr => by simp only [execOp, ho]; exact lift_v hr
  · rename_i t x i ok ho
    replace h := ob_some h; obtain ⟨v, hv, h⟩ := h
    replace h := ob_some h; obtain ⟨vi, hi, h⟩ := h
    exact (lookupB_did hM (hF x (by rw [ho]; simp [Op.operands]) _ hv) (hF i (by rw [ho]; simp [Op.operands]) _ hi) h).res fun cv w' hr => by simp only [execOp, ho]; exact lift_v hr
  · rename_i t mo k x ho
    replace h := ob_some h; obtain ⟨vm, hm, h⟩ := h
    replace h := ob_some h; obtain ⟨vk, hk, h⟩ := h
    replace h := ob_some h; obtain ⟨v, hv, h⟩ := h
    obtain ⟨M', n', w', hK, hr, hM', hm'⟩ := mapUpdateB_did (P := P) hM (hF mo (by rw [ho]; simp [Op.operands]) _ hm) (hF k (by rw [ho]; simp [Op.operands]) _ hk) (hF x (by rw [ho]; simp [Op.operands]) _ hv) h
    exact .skip (by rw [ho]; rfl) hK (by simp only [execOp, ho]; rw [Sem.run_bind, hr]; rfl) hM' hm'
  · rename_i x i ho
    replace h := ob_some h; obtain ⟨v, hv, h⟩ := h
    exact (extractB_did hM (hF x (by rw [ho]; simp [Op.operands]) _ hv) h).res fun cv w' hr => by simp only [execOp, ho]; exact lift_v hr
  · rename_i f args ts ho
    replace h := ob_some h; obtain ⟨v, hv, h⟩ := h
    replace h := opndsK_some h; obtain ⟨vs, hvs, h⟩ := h
    have := callB_res (cvs := args.map a.eval) hcall hM (hF f (by rw [ho]; simp [Op.operands, Call.operands]) _ hv) (by rw [map_toArray]; exact (hF.sub (by rw [ho]; simp [Op.operands, Call.operands]; intro y hy; exact .inr hy)).evals hvs) h
    have e : isStill P o.op = false := by rw [ho]; rfl
    rw [e]
    simp only [execOp, ho, resolve]
    exact this
  · rename_i b args ts ho
    replace h := opndsK_some h; obtain ⟨vs, hvs, h⟩ := h
    obtain ⟨s, hs, hd⟩ := builtinB_did (P := P) (ts := ts) (ty := o.type) (cxs := args.map a.eval) hM (by rw [map_toArray]; exact (hF.sub (by rw [ho]; simp [Op.operands, Call.operands])).evals hvs) h
    have hrun : ∀ cv w', s.run P w = .ok cv w' → (execOp a.eval o).run P w = .ok (.value cv) w' := fun cv w' hr => by
      simp only [execOp, ho, resolve, Sem.run_bind, Sem.run_pure, Result.andThen_ok, invoke, hs, hr]
    rcases hd with hd | ⟨h1, h2, h3, hd⟩
    · exact hd.res hrun
    · exact hd.res (by rw [ho]; cases b <;> first | rfl | exact absurd rfl h1 | exact absurd rfl h2 | exact absurd rfl h3) hrun
  · rename_i t x ho
    replace h := ob_some h; obtain ⟨v, hv, h⟩ := h
    exact (makeInterface_did hM (hF x (by rw [ho]; simp [Op.operands]) _ hv) h).res fun cv w' hr => by simp only [execOp, ho]; exact lift_v hr
  · rename_i t x f ho
    replace h := ob_some h; obtain ⟨v, hv, h⟩ := h
    exact (partB_did hM (hF x (by rw [ho]; simp [Op.operands]) _ hv) h).res fun cv w' hr => by simp only [execOp, ho]; exact lift_v hr
  · rename_i t x ho
    replace h := ob_some h; obtain ⟨v, hv, h⟩ := h
    exact (rangeB_did hM (hF x (by rw [ho]; simp [Op.operands]) _ hv) h).res (by rw [ho]; rfl) fun cv w' hr => by simp only [execOp, ho]; exact lift_v hr
  · rename_i x sb ho
    replace h := ob_some h; obtain ⟨v, hv, h⟩ := h
    exact (nextB_did (ty := o.type) hM (hF x (by rw [ho]; simp [Op.operands]) _ hv) h).res (by rw [ho]; rfl) fun cv w' hr => by simp only [execOp, ho]; exact lift_v hr
  · cases h
end Go.Eb
