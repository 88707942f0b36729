/-
The closed evaluator: operations that leave the world alone.
-/
import Derived.Test.YthglbpibfhfgnaaGreatDoorEb2
set_option linter.unusedVariables false
namespace Go.Eb
open Go.Ev (szT byT aggO offT fszT TK kindT elemK zok LK leavesT openB kind_slice kind_array kind_str kind_int run_sizeOf szT_info addr_add)
variable {A : Type} {P : Program} {w0 : World} {g : Env} {F : Fr} {M : Mm} {n m : Nat} {a : Act} {w : World} {K : V → Mm → Nat → Option A} {r : A}

structure RF (g : Env) (F : Fr) (m : Nat) (a : Act) : Prop where
  sz : m = a.tmps.size
  tmp : ∀ t v, F.get t = some v → Rep g v (a.tmps.getD t undef)
  defers : a.defers = []
  lt : ∀ t v, F.get t = some v → t < m

theorem RF.mono {g g' : Env} {F : Fr} {m : Nat} {a : Act} (h : RF g F m a) (hs : Sub g g') : RF g' F m a := ⟨h.sz, fun t v hv => (h.tmp t v hv).mono hs, h.defers, h.lt⟩
theorem RF.put {g : Env} {F : Fr} {m : Nat} {a : Act} (h : RF g F m a) {d : Nat} {v : V} {cv : Value} (hd : d < m) (hv : Rep g v cv) : RF g (F.set d (some v)) m (a.put (some d) cv) := by
  have hsz : d < a.tmps.size := by rw [← h.sz]; exact hd
  refine ⟨by simpa [Act.put] using h.sz, fun t u ht => ?_, h.defers, fun t u ht => ?_⟩
  · rcases T.get_set ht with ⟨rfl, e⟩ | ⟨hne, ht⟩
    · injection e with e; subst e
      simpa [Act.put, Array.getElem?_setIfInBounds, hsz] using hv
    · have := h.tmp t u ht
      have hne' : ¬ d = t := fun e => hne e.symm
      simpa [Act.put, Array.getElem?_setIfInBounds, hne'] using this
  · rcases T.get_set ht with ⟨rfl, e⟩ | ⟨hne, ht⟩
    · exact hd
    · exact h.lt t u ht

theorem size_list (s : ByteArray) : s.data.toList.length = s.size := by rw [Array.length_toList]; rfl
theorem ofV1_rep {c : Value} {v : V} (h : ofV1 c = some v) : Rep g v c := by
  unfold ofV1 at h
  split at h <;> try (injection h with h; subst h; constructor; done)
  · split at h
    · rename_i hb
      injection h with h; subst h
      exact .str rfl (by have := Nat.le_of_ble_eq_true hb; rwa [size_list] at this)
    · cases h
  · cases h
theorem ofV1_c1 {c : Value} {v : V} (h : ofV1 c = some v) : c1 v = true := by
  unfold ofV1 at h
  split at h <;> try (injection h with h; subst h; rfl)
  · split at h
    · injection h with h; subst h; rfl
    · cases h
  · cases h
theorem ofVL_rep : ∀ {cs : List Value} {vs : List V}, ofVL cs = some vs → RepL g vs cs ∧ ∀ v ∈ vs, c1 v = true
  | [], vs, h => by simp [ofVL] at h; subst h; exact ⟨.nil, by simp⟩
  | c :: cs, vs, h => by
    rw [ofVL] at h
    split at h
    · rename_i u hu
      split at h
      · rename_i us hus
        injection h with h; subst h
        obtain ⟨h1, h2⟩ := ofVL_rep hus
        exact ⟨.cons (ofV1_rep hu) h1, fun v hv => by rcases List.mem_cons.1 hv with rfl | hv; exact ofV1_c1 hu; exact h2 v hv⟩
      · cases h
    · cases h
theorem ofV_rep {c : Value} {v : V} (h : ofV c = some v) : Rep g v c := by
  unfold ofV at h
  split at h
  · split at h
    · rename_i us hus
      injection h with h; subst h
      obtain ⟨h1, h2⟩ := ofVL_rep hus
      exact .agg h1 h2
    · cases h
  · exact ofV1_rep h
theorem zeroV_rep {t : TypeId} {v : V} (h : zeroV P t = some v) : ∃ i z, P.info? t = some i ∧ i.zero = some z ∧ Rep g v z := by
  unfold zeroV at h
  split at h
  · rename_i z hz
    obtain ⟨i, hi, hz⟩ := Option.bind_eq_some_iff.1 hz
    exact ⟨i, z, hi, hz, ofV_rep h⟩
  · cases h

theorem RF.eval (h : RF g F m a) {x : Operand} {v : V} (hx : opnd F x = some v) : Rep g v (a.eval x) := by
  cases x with
  | tmp t => exact h.tmp t v hx
  | func f => simp only [opnd, Option.some.injEq] at hx; subst hx; exact .clo .nil
  | global k => simp only [opnd, Option.some.injEq] at hx; subst hx; exact .glob k
  | const c => exact ofV_rep hx
/-- Some operands stand for what is in the frame. -/
def EvR (g : Env) (F : Fr) (a : Act) (xs : List Operand) : Prop := ∀ x ∈ xs, ∀ v, opnd F x = some v → Rep g v (a.eval x)
theorem RF.ev (h : RF g F m a) (xs : List Operand) : EvR g F a xs := fun x _ v hv => h.eval hv
theorem EvR.sub {xs ys : List Operand} (h : EvR g F a xs) (hs : ∀ y ∈ ys, y ∈ xs) : EvR g F a ys := fun y hy => h y (hs y hy)
theorem EvR.evals : ∀ {xs : List Operand} {vs : List V}, EvR g F a xs → xs.mapM (opnd F) = some vs → RepL g vs (xs.map a.eval)
  | [], vs, h, hx => by simp at hx; subst hx; exact .nil
  | x :: xs, vs, h, hx => by
    simp only [List.mapM_cons, Option.bind_eq_bind, Option.bind_eq_some_iff, Option.pure_def, Option.some.injEq] at hx
    obtain ⟨v, hv, us, hus, rfl⟩ := hx
    exact .cons (h x (by simp) v hv) ((h.sub fun y hy => by simp [hy]).evals hus)

/-- What an operation came to. -/
def Did (w0 : World) (g : Env) (M : Mm) (w : World) (K : V → Mm → Nat → Option A) (r : A) (res : Result Value) : Prop :=
  ∃ v M' n' g' w' cv, K v M' n' = some r ∧ res = .ok cv w' ∧ Rep g' v cv ∧ RM w0 g' M' n' w' ∧ Mv g M w g' M' w'
/-- The same of an operation that leaves all as it is. -/
def DidS (w0 : World) (g : Env) (M : Mm) (n : Nat) (w : World) (K : V → Mm → Nat → Option A) (r : A) (res : Result Value) : Prop := ∃ v cv, K v M n = some r ∧ res = .ok cv w ∧ Rep g v cv ∧ RM w0 g M n w
theorem did_ok (hM : RM w0 g M n w) {v : V} {cv : Value} (h : K v M n = some r) (hv : Rep g v cv) : DidS w0 g M n w K r (.ok cv w) := ⟨v, cv, h, rfl, hv, hM⟩
theorem DidS.did {res : Result Value} (h : DidS w0 g M n w K r res) : Did w0 g M w K r res := by
  obtain ⟨v, cv, h1, h2, h3, h4⟩ := h
  exact ⟨v, M, n, g, w, cv, h1, h2, h3, h4, .refl g M w⟩

theorem pick_did (hM : RM w0 g M n w) {c x y : Operand} (hF : EvR g F a [c, x, y]) (h : pickB M n (opnd F c) (opnd F x) (opnd F y) K = some r) :
    DidS w0 g M n w K r ((do pure (if ← asBool (a.eval c) then a.eval x else a.eval y) : Sem Value).run P w) := by
  unfold pickB at h
  split at h
  · rename_i hc
    replace h := ob_some h; obtain ⟨v, hv, h⟩ := h
    have := hF c (by simp) _ hc
    generalize a.eval c = cc at this
    cases this
    simp only [asBool, Sem.run_bind, Sem.run_pure, Result.andThen_ok, if_true]
    exact did_ok hM h (hF x (by simp) _ hv)
  · rename_i hc
    replace h := ob_some h; obtain ⟨v, hv, h⟩ := h
    have := hF c (by simp) _ hc
    generalize a.eval c = cc at this
    cases this
    simp only [asBool, Sem.run_bind, Sem.run_pure, Result.andThen_ok, Bool.false_eq_true, if_false]
    exact did_ok hM h (hF y (by simp) _ hv)
  · cases h

theorem natsOf_inj {a b : ByteArray} (h : natsOf a = natsOf b) : a.toList = b.toList := by
  have h1 : a.data.toList = b.data.toList := by
    have : ∀ {l l' : List UInt8}, l.map (·.toNat) = l'.map (·.toNat) → l = l' := by
      intro l
      induction l with
      | nil => intro l' h; cases l' with | nil => rfl | cons _ _ => simp at h
      | cons x l ih =>
        intro l' h
        cases l' with
        | nil => simp at h
        | cons y l' => simp only [List.map_cons, List.cons.injEq] at h; rw [UInt8.toNat_inj.1 h.1, ih h.2]
    exact this h
  have h2 : a = b := by cases a; cases b; congr; exact Array.toList_inj.1 h1
  rw [h2]
theorem toList_data (s : ByteArray) : s.toList = s.data.toList := ByteArray.toList_eq s
theorem beq_nats (a b : ByteArray) : (a.toList == b.toList) = decide (natsOf a = natsOf b) := by
  rw [Bool.eq_iff_iff]
  simp only [beq_iff_eq, decide_eq_true_eq]
  exact ⟨fun h => by unfold natsOf; rw [← toList_data, ← toList_data, h], natsOf_inj⟩
theorem ltS_nats (a b : List UInt8) : Op.bytesLess a b = ltS (a.map (·.toNat)) (b.map (·.toNat)) := by
  induction a generalizing b with
  | nil => cases b <;> rfl
  | cons x a ih =>
    cases b with
    | nil => rfl
    | cons y b =>
      simp only [Op.bytesLess, List.map_cons, ltS, ih]
      congr 1
      congr 1
      rw [Bool.eq_iff_iff]
      simp [UInt8.toNat_inj]
theorem lt_nats (a b : ByteArray) : Op.bytesLess a.toList b.toList = ltS (natsOf a) (natsOf b) := by rw [toList_data, toList_data]; exact ltS_nats _ _
theorem natsOf_append (a b : ByteArray) : natsOf (a ++ b) = natsOf a ++ natsOf b := by unfold natsOf; simp
theorem natsOf_length (s : ByteArray) : (natsOf s).length = s.size := by unfold natsOf; rw [List.length_map, size_list]

theorem bitsO_run {op : BinOp} {k : IntKind} {x y z : Int} (h : bitsO op k x y = some z) : (Op.intBits op k x y).run P w = .ok (.int k (k.wrap z)) w := by
  unfold bitsO at h
  split at h <;> first | (injection h with h; subst h; simp [Op.intBits]; done) | cases h

theorem intB_did (hM : RM w0 g M n w) {op : BinOp} {t : TypeId} {k : IntKind} {x y : Int} (h : intB op k x y M n K = some r) (hs : op ≠ .shl ∧ op ≠ .shr) : DidS w0 g M n w K r ((binOp op t (.int k x) (.int k y)).run P w) := by
  unfold intB at h
  split at h
  · rw [kI_eq] at h
    exact (show (binOp .add t (.int k x) (.int k y)).run P w = .ok (.int k (k.wrap (x + y))) w by simp [binOp, Op.intArith]) ▸ did_ok hM h (.int _ _)
  · rw [kI_eq] at h
    exact (show (binOp .sub t (.int k x) (.int k y)).run P w = .ok (.int k (k.wrap (x - y))) w by simp [binOp, Op.intArith]) ▸ did_ok hM h (.int _ _)
  · rw [kI_eq] at h
    exact (show (binOp .mul t (.int k x) (.int k y)).run P w = .ok (.int k (k.wrap (x * y))) w by simp [binOp, Op.intArith]) ▸ did_ok hM h (.int _ _)
  · rw [kB_eq, eqI_eq] at h
    exact (show (binOp .eql t (.int k x) (.int k y)).run P w = .ok (.bool (decide (x = y))) w by simp [binOp, Op.intCmp, BEq.beq]) ▸ did_ok hM h (.bool _)
  · rw [kB_eq, eqI_eq] at h
    exact (show (binOp .neq t (.int k x) (.int k y)).run P w = .ok (.bool (!decide (x = y))) w by simp [binOp, Op.intCmp, bne, BEq.beq]) ▸ did_ok hM h (.bool _)
  · rw [kB_eq, leI_eq] at h
    exact (show (binOp .lss t (.int k x) (.int k y)).run P w = .ok (.bool (!decide (y ≤ x))) w by simp [binOp, Op.intCmp]; rw [Bool.eq_iff_iff]; simp) ▸ did_ok hM h (.bool _)
  · rw [kB_eq, leI_eq] at h
    exact (show (binOp .leq t (.int k x) (.int k y)).run P w = .ok (.bool (decide (x ≤ y))) w by simp [binOp, Op.intCmp]) ▸ did_ok hM h (.bool _)
  · rw [kB_eq, leI_eq] at h
    exact (show (binOp .gtr t (.int k x) (.int k y)).run P w = .ok (.bool (!decide (x ≤ y))) w by simp [binOp, Op.intCmp]; rw [Bool.eq_iff_iff]; simp) ▸ did_ok hM h (.bool _)
  · rw [kB_eq, leI_eq] at h
    exact (show (binOp .geq t (.int k x) (.int k y)).run P w = .ok (.bool (decide (y ≤ x))) w by simp [binOp, Op.intCmp]) ▸ did_ok hM h (.bool _)
  · replace h := bb_some h; obtain ⟨hz, h⟩ := h
    rw [eqI_eq] at hz
    have hz : ¬ y = 0 := by simpa using hz
    rw [kI_eq] at h
    exact (show (binOp .quo t (.int k x) (.int k y)).run P w = .ok (.int k (k.wrap (x.tdiv y))) w by simp [binOp, Op.intDiv, hz]) ▸ did_ok hM h (.int _ _)
  · replace h := bb_some h; obtain ⟨hz, h⟩ := h
    rw [eqI_eq] at hz
    have hz : ¬ y = 0 := by simpa using hz
    rw [forceI_eq] at h
    exact (show (binOp .rem t (.int k x) (.int k y)).run P w = .ok (.int k (x.tmod y)) w by simp [binOp, Op.intDiv, hz]) ▸ did_ok hM h (.int _ _)
  · replace h := ob_some h; obtain ⟨z, hz, h⟩ := h
    rw [kI_eq] at h
    have hb := bitsO_run (P := P) (w := w) hz
    have : (binOp op t (.int k x) (.int k y)).run P w = .ok (.int k (k.wrap z)) w := by
      cases op <;> first | (simp [bitsO] at hz; done) | (simpa [binOp] using hb)
    exact this ▸ did_ok hM h (.int _ _)

theorem guard_scalar {op : BinOp} {t : TypeId} {x y : Operand} {u v : Value} (h1 : u.oneCell' = true) (h2 : u ≠ .nilIface) : (eqGuard op t x y u v).run P w = .ok () w := Ev.guard_scalar h1 h2
theorem bin_val (hM : RM w0 g M n w) {op : BinOp} {t : TypeId} {ox oy : Operand} {cx cy : Value} (hg : (eqGuard op t ox oy cx cy).run P w = .ok () w) (hb : DidS w0 g M n w K r ((binOp op t cx cy).run P w)) :
    DidS w0 g M n w K r ((do eqGuard op t ox oy cx cy; binOp op t cx cy : Sem Value).run P w) := by
  simp only [Sem.run_bind, hg, Result.andThen_ok]
  exact hb

/-- Scalars as the other evaluator has them. -/
def toAV : Value → Ev.AV
  | .bool b => .bool b
  | .int k n => .int k n
  | .string s => .str s
  | _ => .undef
theorem eqLK_run {E : Ev.Env} : ∀ {lk : List LK} {xs ys : List V} {acc : Bool} {K : Bool → Option A} {vs us : List Value}, eqLK lk xs ys acc K = some r → RepL g xs vs → RepL g ys us →
    ∃ c, Ev.eqLK lk (vs.map toAV) (us.map toAV) = some c ∧ K (acc && c) = some r ∧ Ev.RepL E (vs.map toAV) vs [] ∧ Ev.RepL E (us.map toAV) us []
  | [], xs, ys, acc, K, vs, us, h, hx, hy => by
    cases xs with
    | cons _ _ => cases h
    | nil => cases ys with
      | cons _ _ => cases h
      | nil => cases hx; cases hy; have h : K acc = some r := h; exact ⟨true, rfl, by simpa using h, .nil, .nil⟩
  | k :: lk, xs, ys, acc, K, vs, us, h, hx, hy => by
    cases xs with
    | nil => cases h
    | cons x xs => cases ys with
      | nil => cases h
      | cons y ys =>
        obtain ⟨v, vs, rfl, hv, hvs⟩ := hx.inv
        obtain ⟨u, us, rfl, hu, hus⟩ := hy.inv
        have h : ob (eqK k x y) (fun c => match c with
          | true => eqLK lk xs ys acc K
          | false => eqLK lk xs ys false K) = some r := h
        replace h := ob_some h; obtain ⟨c, hc, h⟩ := h
        have hk : Ev.eqK k (toAV v) (toAV u) = some c ∧ Ev.Rep E (toAV v) v [] ∧ Ev.Rep E (toAV u) u [] := by
          unfold eqK at hc
          split at hc
          · cases hv; cases hu; injection hc with hc; subst hc; exact ⟨rfl, .bool _, .bool _⟩
          · cases hv; cases hu
            split at hc
            · rename_i e; subst e; injection hc with hc; subst hc; exact ⟨by simp [toAV, Ev.eqK, eqI_eq, BEq.beq], .int _ _, .int _ _⟩
            · cases hc
          · cases hv with | str h1 h2 => cases hu with | str h3 h4 =>
              injection hc with hc; subst hc; subst h1 h3
              exact ⟨by simp only [toAV, Ev.eqK]; rw [eqL_eq, beq_nats], .str _ h2, .str _ h4⟩
          · cases hc
        obtain ⟨hk1, hk2, hk3⟩ := hk
        have go : ∀ {acc' : Bool}, eqLK lk xs ys acc' K = some r → acc' = (acc && c) →
            ∃ c, Ev.eqLK (k :: lk) ((v :: vs).map toAV) ((u :: us).map toAV) = some c ∧ K (acc && c) = some r ∧ Ev.RepL E ((v :: vs).map toAV) (v :: vs) [] ∧ Ev.RepL E ((u :: us).map toAV) (u :: us) [] := fun {acc'} h hacc => by
          obtain ⟨d, h1, h2, h3, h4⟩ := eqLK_run (E := E) h hvs hus
          refine ⟨c && d, by simp [Ev.eqLK, hk1, h1], ?_, .cons (l := []) (m := []) hk2 h3, .cons (l := []) (m := []) hk3 h4⟩
          rw [hacc, Bool.and_assoc] at h2; exact h2
        cases c with
        | true => exact go h (by simp)
        | false => exact go h (by simp)

theorem sl_eq1 (d : Nat) {t e : TypeId} (ht : P.underlying t = some (.slice e)) {l0 c0 l c : Nat} (b : Option Addr) : (Op.equalIn (d + 1) t (.slice none l0 c0) (.slice b l c)).run P w = .ok b.isNone w := by
  simp only [Op.equalIn, Sem.run_bind, run_underlying ht, Result.andThen_ok, Sem.run_pure]
theorem sl_eq2 (d : Nat) {t e : TypeId} (ht : P.underlying t = some (.slice e)) {l0 c0 l c : Nat} (p : Addr) : (Op.equalIn (d + 1) t (.slice (some p) l0 c0) (.slice none l c)).run P w = .ok false w := by
  simp only [Op.equalIn, Sem.run_bind, run_underlying ht, Result.andThen_ok, Sem.run_pure]
theorem ptr_eq3 (d : Nat) {t e : TypeId} (ht : P.underlying t = some (.pointer e)) {b p q : Nat} {ie : TypeInfo} (hie : P.info? e = some ie) (hz : ie.size ≠ 0) : (Op.equalIn (d + 1) t (.pointer (some ⟨b, p, none⟩)) (.pointer (some ⟨b, q, none⟩))).run P w = .ok (decide (p = q)) w := by
  simp only [Op.equalIn, Sem.run_bind, run_underlying ht, Result.andThen_ok, run_sizeOf hie, if_pos hz, sameAddr, beq_self_eq_true, if_true, Sem.run_pure]
  congr 1
  rw [Bool.eq_iff_iff]
  simp
theorem mp_eq1 (d : Nat) {t k e : TypeId} (ht : P.underlying t = some (.map k e)) (b : Option Nat) : (Op.equalIn (d + 1) t (.map none) (.map b)).run P w = .ok b.isNone w := by
  simp only [Op.equalIn, Sem.run_bind, run_underlying ht, Result.andThen_ok, Sem.run_pure]
theorem mp_eq2 (d : Nat) {t k e : TypeId} (ht : P.underlying t = some (.map k e)) (p : Nat) : (Op.equalIn (d + 1) t (.map (some p)) (.map none)).run P w = .ok false w := by
  simp only [Op.equalIn, Sem.run_bind, run_underlying ht, Result.andThen_ok, Sem.run_pure]
/-- == at a type. -/
theorem eqT_run {t : TypeId} {x y : V} {cx cy : Value} {K : Bool → Option A} (h : eqT P t x y K = some r) (hx : Rep g x cx) (hy : Rep g y cy) :
    ∃ b, K b = some r ∧ (Op.equal t cx cy).run P w = .ok b w ∧ (∀ op ox oy, (eqGuard op t ox oy cx cy).run P w = .ok () w) ∧ (∀ k n, cx ≠ .int k n) ∧ (∀ s, cx ≠ .string s) ∧ (∀ k b, cx ≠ .float k b) ∧ (∀ k a b, cx ≠ .complex k a b) := by
  have und : ∀ {d : TypeDesc}, P.underlying t = some d → (underlying t).run P w = .ok d w := fun h => run_underlying h w
  unfold eqT at h
  split at h
  · rename_i hk
    have hu : P.underlying t = some .bool := by unfold kindT at hk; split at hk <;> first | assumption | cases hk
    cases hx; cases hy
    exact ⟨_, h, by simp [Op.equal, Op.maxDepth, run_equalIn_bool' (P := P) w _ t _ _ hu], fun _ _ _ => guard_scalar rfl (by simp), by simp, by simp, by simp, by simp⟩
  · rename_i e hk
    have hu : P.underlying t = some (.pointer e) := by unfold kindT at hk; split at hk <;> first | (injection hk with hk; subst hk; assumption) | cases hk
    cases hx; cases hy
    exact ⟨_, h, by rw [Op.equal, Op.maxDepth, Ev.ptr_nil1 9999 hu]; rfl, fun _ _ _ => guard_scalar rfl (by simp), by simp, by simp, by simp, by simp⟩
  · rename_i e _ _ hk
    have hu : P.underlying t = some (.pointer e) := by unfold kindT at hk; split at hk <;> first | (injection hk with hk; subst hk; assumption) | cases hk
    cases hx; cases hy
    exact ⟨_, h, by rw [Op.equal, Op.maxDepth, Ev.ptr_nil1 9999 hu]; rfl, fun _ _ _ => guard_scalar rfl (by simp), by simp, by simp, by simp, by simp⟩
  · rename_i e _ _ hk
    have hu : P.underlying t = some (.pointer e) := by unfold kindT at hk; split at hk <;> first | (injection hk with hk; subst hk; assumption) | cases hk
    cases hx; cases hy
    exact ⟨_, h, by rw [Op.equal, Op.maxDepth, Ev.ptr_nil2 9999 hu], fun _ _ _ => guard_scalar rfl (by simp), by simp, by simp, by simp, by simp⟩
  · rename_i e i p j q hk
    have hu : P.underlying t = some (.pointer e) := by unfold kindT at hk; split at hk <;> first | (injection hk with hk; subst hk; assumption) | cases hk
    replace h := bb_some h; obtain ⟨hb, h2⟩ := h
    simp only [Bool.and_eq_true, Nat.beq_eq] at hb
    obtain ⟨rfl, hz⟩ := hb
    have hz : 0 < szT P e := by simpa [Nat.blt_eq] using hz
    obtain ⟨ie, hie⟩ := szT_info hz
    have hz' : ie.size ≠ 0 := by simp [szT, hie] at hz; omega
    cases hx with | @ptr _ _ x hgx => cases hy with | @ptr _ _ y hgy =>
      obtain rfl : x = y := by rw [hgx] at hgy; injection hgy
      refine ⟨_, h2, ?_, fun _ _ _ => guard_scalar rfl (by simp), by simp, by simp, by simp, by simp⟩
      rw [Op.equal, Op.maxDepth, ptr_eq3 9999 hu hie hz', nbeq]
      congr 1
      rw [Bool.eq_iff_iff]
      simp
  · rename_i e hk
    have hu := kind_slice hk
    cases hx; cases hy
    exact ⟨_, h, by rw [Op.equal, Op.maxDepth, sl_eq1 9999 hu]; rfl, fun _ _ _ => guard_scalar rfl (by simp), by simp, by simp, by simp, by simp⟩
  · rename_i e _ _ _ _ _ hk
    have hu := kind_slice hk
    cases hx; cases hy
    exact ⟨_, h, by rw [Op.equal, Op.maxDepth, sl_eq1 9999 hu]; rfl, fun _ _ _ => guard_scalar rfl (by simp), by simp, by simp, by simp, by simp⟩
  · rename_i e _ _ _ _ _ hk
    have hu := kind_slice hk
    cases hx; cases hy
    exact ⟨_, h, by rw [Op.equal, Op.maxDepth, sl_eq2 9999 hu], fun _ _ _ => guard_scalar rfl (by simp), by simp, by simp, by simp, by simp⟩
  · rename_i k e hk
    have hu : P.underlying t = some (.map k e) := by unfold kindT at hk; split at hk <;> first | (injection hk with hk hk'; subst hk hk'; assumption) | cases hk
    cases hx; cases hy
    exact ⟨_, h, by rw [Op.equal, Op.maxDepth, mp_eq1 9999 hu]; rfl, fun _ _ _ => guard_scalar rfl (by simp), by simp, by simp, by simp, by simp⟩
  · rename_i k e _ hk
    have hu : P.underlying t = some (.map k e) := by unfold kindT at hk; split at hk <;> first | (injection hk with hk hk'; subst hk hk'; assumption) | cases hk
    cases hx; cases hy
    exact ⟨_, h, by rw [Op.equal, Op.maxDepth, mp_eq1 9999 hu]; rfl, fun _ _ _ => guard_scalar rfl (by simp), by simp, by simp, by simp, by simp⟩
  · rename_i k e _ hk
    have hu : P.underlying t = some (.map k e) := by unfold kindT at hk; split at hk <;> first | (injection hk with hk hk'; subst hk hk'; assumption) | cases hk
    cases hx; cases hy
    exact ⟨_, h, by rw [Op.equal, Op.maxDepth, mp_eq2 9999 hu], fun _ _ _ => guard_scalar rfl (by simp), by simp, by simp, by simp, by simp⟩
  · replace h := ob_some h; obtain ⟨lk, hlk, h⟩ := h
    cases hx with | @agg _ vs hvs _ => cases hy with | @agg _ us hus _ =>
      obtain ⟨c, h1, h2, h3, h4⟩ := eqLK_run (E := ⟨#[], fun _ _ => False, fun _ => none⟩) h hvs hus
      obtain ⟨vs', us', e1, e2, he, hg⟩ := Ev.bin_agg (P := P) (w := w) (.agg h3) (.agg h4) hlk h1
      injection e1 with e1; injection e2 with e2
      subst e1 e2
      have hg' : (Program.eqGuardType P P.depth t) = false := hg
      exact ⟨c, by simpa using h2, he, fun op ox oy => run_eqGuard_agg w op t ox oy vs us hg', by simp, by simp, by simp, by simp⟩
  · cases h
end Go.Eb
