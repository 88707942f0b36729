/-
The closed evaluator: code, calls.
-/
import Derived.Test.YtlkcehghfhdbjaaEb14
import Derived.LoopN
set_option linter.unusedVariables false
set_option linter.unusedSimpArgs false
namespace Go.Eb
variable {A : Type} {P : Program} {w0 : World} {g : Env} {F : Fr} {M : Mm} {n m : Nat} {a : Act} {w : World} {r : A}

/-- What code is asked for. -/
def CodeQ (w0 : World) (g : Env) (M : Mm) (w : World) (m : Nat) (r : A) (K : ExitK A) (Q : Exit → Act → World → Prop) : Prop :=
  ∀ e F' M' n' g' a' w', K e F' M' n' = some r → RF g' F' m a' → RM w0 g' M' n' w' → Mv g M w g' M' w' → Q e a' w'
theorem CodeQ.after {g' : Env} {M' : Mm} {w' : World} {K : ExitK A} {Q : Exit → Act → World → Prop} (h : CodeQ w0 g M w m r K Q) (hm : Mv g M w g' M' w') : CodeQ w0 g' M' w' m r K Q :=
  fun e F2 M2 n2 g2 a2 w2 h1 h2 h3 h4 => h e F2 M2 n2 g2 a2 w2 h1 h2 h3 (hm.trans h4)

theorem codeB_wp [Subsingleton A] {call : CallT A} (hcall : CallGood P w0 call) : ∀ (c : Code) {F : Fr} {M : Mm} {n : Nat} {g : Env} {a : Act} {w : World} {K : ExitK A} {Q : Exit → Act → World → Prop},
    codeB P call m c F M n K = some r → RM w0 g M n w → RF g F m a → CodeQ w0 g M w m r K Q → c.wp P Q a w := by
  intro c
  induction c with
  | skip =>
    intro F M n g a w K Q h hM hF hQ
    rw [codeB] at h
    exact wp_skip (hQ _ _ _ _ _ _ _ h hF hM (.refl g M w))
  | region id ops draw =>
    intro F M n g a w K Q h hM hF hQ
    rw [codeB] at h
    cases draw with
    | true => exact draw_wp hcall h hM hF fun F' M' n' g' a' w' h1 h2 h3 h4 => hQ _ _ _ _ _ _ _ h1 h2 h3 h4
    | false => exact region_wp hcall h hM hF fun F' M' n' g' a' w' h1 h2 h3 h4 => hQ _ _ _ _ _ _ _ h1 h2 h3 h4
  | seq x y ihx ihy =>
    intro F M n g a w K Q h hM hF hQ
    rw [codeB] at h
    refine wp_seq (ihx h hM hF fun e F' M' n' g' a' w' h1 h2 h3 h4 => ?_)
    cases e with
    | normal => exact ihy h1 h3 h2 (hQ.after h4)
    | exit _ => exact hQ _ _ _ _ _ _ _ h1 h2 h3 h4
    | goto _ => exact hQ _ _ _ _ _ _ _ h1 h2 h3 h4
    | ret => exact hQ _ _ _ _ _ _ _ h1 h2 h3 h4
    | panic _ => exact hQ _ _ _ _ _ _ _ h1 h2 h3 h4
    | outgrown => exact hQ _ _ _ _ _ _ _ h1 h2 h3 h4
  | cond c x y ihx ihy =>
    intro F M n g a w K Q h hM hF hQ
    rw [codeB] at h
    cases hc : opnd F c with
    | none => rw [hc] at h; cases h
    | some v =>
      have hv := hF.eval hc
      rw [hc] at h
      cases v with
      | bool b =>
        have he : a.eval c = .bool b := by generalize a.eval c = z at hv; cases hv; rfl
        cases b with
        | true => exact wp_cond_true he (ihx h hM hF hQ)
        | false => exact wp_cond_false he (ihy h hM hF hQ)
      | anyb =>
        replace h := ob_some h; obtain ⟨r1, h1, h2⟩ := h
        obtain rfl : r1 = r := Subsingleton.elim _ _
        generalize hz : a.eval c = z at hv
        cases hv with | anyb b =>
          cases b with
          | true => exact wp_cond_true hz (ihx h1 hM hF hQ)
          | false => exact wp_cond_false hz (ihy h2 hM hF hQ)
      | _ => cases h
  | block id c ih =>
    intro F M n g a w K Q h hM hF hQ
    rw [codeB] at h
    refine wp_block (ih h hM hF fun e F' M' n' g' a' w' h1 h2 h3 h4 => ?_)
    cases e with
    | normal => exact hQ _ _ _ _ _ _ _ h1 h2 h3 h4
    | exit i =>
      unfold blockK at h1
      simp only at h1
      show if i = id then Q .normal a' w' else Q (.exit i) a' w'
      split at h1
      · rename_i hi
        rw [if_pos (Nat.eq_of_beq_eq_true hi)]
        exact hQ _ _ _ _ _ _ _ h1 h2 h3 h4
      · rename_i hi
        rw [if_neg (Nat.ne_of_beq_eq_false hi)]
        exact hQ _ _ _ _ _ _ _ h1 h2 h3 h4
    | goto _ => exact hQ _ _ _ _ _ _ _ h1 h2 h3 h4
    | ret => exact hQ _ _ _ _ _ _ _ h1 h2 h3 h4
    | panic _ => exact hQ _ _ _ _ _ _ _ h1 h2 h3 h4
    | outgrown => exact hQ _ _ _ _ _ _ _ h1 h2 h3 h4
  | loop c ih =>
    intro F M n g a w K Q h hM hF hQ
    rw [codeB] at h
    have key : ∀ (fuel : Nat) {F : Fr} {M : Mm} {n : Nat} {g : Env} {a : Act} {w : World}, loopB fuel (codeB P call m c) F M n K = some r → RM w0 g M n w → RF g F m a → CodeQ w0 g M w m r K Q → Code.rounds P c Q fuel a w := by
      intro fuel
      induction fuel with
      | zero => intro F M n g a w h; cases h
      | succ fuel ihf =>
        intro F M n g a w h hM hF hQ
        have h : codeB P call m c F M n (seqK (loopB fuel (codeB P call m c) · · · K) K) = some r := h
        refine ih h hM hF fun e F' M' n' g' a' w' h1 h2 h3 h4 => ?_
        cases e with
        | normal => exact ihf h1 h3 h2 (hQ.after h4)
        | exit _ => exact hQ _ _ _ _ _ _ _ h1 h2 h3 h4
        | goto _ => exact hQ _ _ _ _ _ _ _ h1 h2 h3 h4
        | ret => exact hQ _ _ _ _ _ _ _ h1 h2 h3 h4
        | panic _ => exact hQ _ _ _ _ _ _ _ h1 h2 h3 h4
        | outgrown => exact hQ _ _ _ _ _ _ _ h1 h2 h3 h4
    exact wp_loop_rounds _ (key _ h hM hF hQ)
  | exit id =>
    intro F M n g a w K Q h hM hF hQ
    rw [codeB] at h
    exact wp_exit (hQ _ _ _ _ _ _ _ h hF hM (.refl g M w))
  | ret =>
    intro F M n g a w K Q h hM hF hQ
    rw [codeB] at h
    exact wp_ret (hQ _ _ _ _ _ _ _ h hF hM (.refl g M w))
  | _ => intro F M n g a w K Q h hM hF hQ; unfold codeB at h; cases h

theorem ress_run (hM : RM w0 g M n w) (hF : RF g F m a) : ∀ {rs : List ResultVar} {K : List V → Option A}, ressK P F M n rs K = some r → ∃ vs cvs, K vs = some r ∧ (rs.mapM (m := Sem) fun
      | .tmp t => pure (a.tmps.getD t undef)
      | .cell b t => do loadVar t (← asAddr (a.tmps.getD b undef))).run P w = .ok cvs w ∧ RepL g vs cvs
  | [], K, h => ⟨[], [], h, by simp, .nil⟩
  | .tmp t :: rs, K, h => by
    have h : ob (F.get t) (fun v => ressK P F M n rs fun vs => K (v :: vs)) = some r := h
    replace h := ob_some h; obtain ⟨v, hv, h⟩ := h
    obtain ⟨vs, cvs, h1, h2, h3⟩ := ress_run hM hF h
    refine ⟨v :: vs, a.tmps.getD t undef :: cvs, h1, ?_, .cons (hF.tmp t v hv) h3⟩
    simp only [List.mapM_cons, Sem.run_bind, Sem.run_pure, Result.andThen_ok, h2]
  | .cell b t :: rs, K, h => by
    have h : ob (F.get b) (fun p => loadB P M n t p fun v _ _ => ressK P F M n rs fun vs => K (v :: vs)) = some r := h
    replace h := ob_some h; obtain ⟨p, hp, h⟩ := h
    obtain ⟨v, cv, h1, h2, h3, _⟩ := loadB_did hM (hF.tmp b p hp) h
    obtain ⟨vs, cvs, h4, h5, h6⟩ := ress_run hM hF h1
    refine ⟨v :: vs, cv :: cvs, h4, ?_, .cons h3 h6⟩
    have hrep := hF.tmp b p hp
    simp only [List.mapM_cons, Sem.run_bind]
    generalize a.tmps.getD b undef = cp at hrep h2 ⊢
    unfold loadB at h
    split at h
    · cases hrep
      rw [Ev.loadAt_run] at h2
      simp only [Sem.run_bind, Sem.run_pure, Result.andThen_ok, asAddr, h2]
      erw [h5]
      rfl
    · cases h
theorem one_rep {vs : List V} {cvs : Array Value} (h : RepL g vs cvs.toList) : Rep g (one vs) (if h : cvs.size = 1 then cvs[0] else .tuple cvs) := by
  have hl : vs.length = cvs.size := by rw [h.length]; simp
  split
  · rename_i h1
    cases vs with
    | nil => simp at hl; omega
    | cons v r =>
      cases r with
      | cons _ _ => simp at hl; omega
      | nil =>
        obtain ⟨cv, e1, h2⟩ := h.inv1
        have : cvs[0] = cv := by
          have : cvs.toList[0]? = some cv := by rw [e1]; rfl
          simp at this
          rw [Array.getElem?_eq_getElem (by omega)] at this
          injection this
        rw [this]
        exact h2
  · rename_i h1
    have : one vs = .tup vs := by
      cases vs with
      | nil => rfl
      | cons v r =>
        cases r with
        | nil => simp at hl; omega
        | cons _ _ => rfl
    rw [this]
    exact .tup h
theorem ret_run {fn : Func} {K : V → Mm → Nat → Option A} (hM : RM w0 g M n w) (hF : RF g F m a) (h : retB P F M n fn.results.toList K = some r) : ∃ v cv, K v M n = some r ∧ (results fn a.tmps).run P w = .ok cv w ∧ Rep g v cv := by
  obtain ⟨vs, cvs, h1, h2, h3⟩ := ress_run hM hF h
  refine ⟨one vs, (if h : cvs.toArray.size = 1 then cvs.toArray[0] else .tuple cvs.toArray), h1, ?_, one_rep (by simpa using h3)⟩
  unfold results
  rw [Sem.run_bind]
  have : ((fn.results.mapM (m := Sem) fun
      | .tmp t => pure (a.tmps.getD t undef)
      | .cell b t => do loadVar t (← asAddr (a.tmps.getD b undef))) : Sem (Array Value)).run P w = .ok cvs.toArray w := by
    rw [Array.mapM_eq_mapM_toList]
    show ((List.toArray <$> _ : Sem (Array Value))).run P w = _
    rw [map_eq_pure_bind, Sem.run_bind]
    erw [h2]
    rfl
  erw [this]
  rfl

theorem argsK_some : ∀ {vs : List V} {i : Nat} {F : Fr} {K : Fr → Option A}, argsK vs i F K = some r → ∃ F', K F' = some r ∧ ∀ t v, F'.get t = some v → F.get t = some v ∨ (i ≤ t ∧ vs[t - i]? = some v)
  | [], i, F, K, h => ⟨F, h, fun t v h => .inl h⟩
  | x :: vs, i, F, K, h => by
    have h : T.setK 64 F i (some x) (fun F => argsK vs (Nat.succ i) F K) = some r := h
    rw [T.setK_set] at h
    obtain ⟨F', h1, h2⟩ := argsK_some h
    refine ⟨F', h1, fun t v ht => ?_⟩
    rcases h2 t v ht with h3 | ⟨h3, h4⟩
    · rcases T.get_set h3 with ⟨rfl, e⟩ | ⟨_, h3⟩
      · exact .inr ⟨Nat.le_refl _, by simpa using e⟩
      · exact .inl h3
    · refine .inr ⟨by omega, ?_⟩
      have : t - i = (t - Nat.succ i) + 1 := by omega
      rw [this, List.getElem?_cons_succ]; exact h4

theorem bodyOf_some {f : FuncId} {fc : Func × Code} (h : bodyOf P f = some fc) : P.funcs[f]? = some fc.1 ∧ fc.1.body = some fc.2 ∧ (fc.1.name == "runtime.NumGoroutine") = false := by
  unfold bodyOf at h
  split at h
  · rename_i fn hf
    split at h
    · rename_i c hc
      split at h
      · cases h
      · rename_i hn
        injection h with h; subst h
        exact ⟨hf, hc, hn⟩
    · cases h
  · cases h

/-- What is known of some functions. -/
def Known (P : Program) (kn : List Nat) : Prop := ∀ f, isIn f kn = true → (∃ fn c, P.funcs[f]? = some fn ∧ fn.body = some c ∧ (fn.name == "runtime.NumGoroutine") = false) ∧
  ∀ w, Calls P f #[] w fun e w' => e = .returned (.bool true) ∧ w.heap.size ≤ w'.heap.size ∧ (∀ b, b < w.heap.size → w'.heap[b]? = w.heap[b]?) ∧ w'.tape = w.tape ∧ w'.os = w.os ∧ w'.output = w.output
theorem RM.grow {w' : World} (h : RM w0 g M n w) (h1 : w.heap.size ≤ w'.heap.size) (h2 : ∀ b, b < w.heap.size → w'.heap[b]? = w.heap[b]?) (h3 : w'.tape = w.tape) (h4 : w'.os = w.os) (h5 : w'.output = w.output) : RM w0 g M n w' ∧ Mv g M w g M w' := by
  refine ⟨⟨fun id b hb => ?_, h.inj, fun id x hx => ?_, Nat.le_trans h.size h1, fun b hb => ?_, h3.trans h.tape, h4.trans h.os, h5.trans h.output⟩, ⟨.refl g, h1, fun b hb _ => h2 b hb, fun id x c hc hx _ => ⟨id, x, c, hc, hx, rfl⟩⟩⟩
  · obtain ⟨x, hx, hr⟩ := h.rep id b hb
    exact ⟨x, hx, hr.ext (.refl g) (h2 _ (h.lt id x hx).2.2)⟩
  · have := h.lt id x hx
    exact ⟨this.1, this.2.1, by omega⟩
  · rw [h2 b (Nat.lt_of_lt_of_le hb h.size)]; exact h.old b hb

/-- Every function, to a depth. -/
theorem runB_good [Subsingleton A] {kn : List Nat} (hkn : Known P kn) : ∀ (d : Nat), CallGood P w0 (runB P kn d : CallT A)
  | 0, f, xs, M, n, K, r, g, w, cargs, h, _, _ => by cases h
  | d + 1, f, xs, M, n, K, r, g, w, cargs, h, hM, hx => by
    replace h : (match isIn f kn with
      | true => bb xs.isEmpty (K (.bool true) M n)
      | false => ob (bodyOf P f) (fun fc => enterB P (runB P kn d) fc xs M n K)) = some r := h
    have hent : ∀ {fn : Func} {c : Code}, P.funcs[f]? = some fn → fn.body = some c → (fn.name == "runtime.NumGoroutine") = false → (callFunc f cargs).run P w = .ok (.enter f cargs) w := fun {fn c} hf hb hname => by
      simp only [callFunc, program, Sem.run_bind]
      simp [Sem.run, hf, hname, hb]
      simpa using hname
    split at h
    · rename_i hin
      replace h := bb_some h; obtain ⟨hx0, h⟩ := h
      obtain rfl : xs = [] := by simpa using hx0
      obtain rfl : cargs = #[] := by have := hx.inv0; simpa using this
      obtain ⟨⟨fn, c, hf, hb, hname⟩, hc⟩ := hkn f hin
      refine ⟨hent hf hb hname, (hc w).mono fun e w' he => ?_⟩
      obtain ⟨rfl, h1, h2, h3, h4, h5⟩ := he
      obtain ⟨k1, k2⟩ := hM.grow h1 h2 h3 h4 h5
      exact ⟨_, _, M, n, g, rfl, h, .bool _, k1, k2⟩
    · replace h := ob_some h; obtain ⟨fc, hfc, h⟩ := h
      obtain ⟨hf, hb, hname⟩ := bodyOf_some hfc
      refine ⟨hent hf hb hname, calls_of_wp hf hb ?_⟩
      unfold enterB at h
      obtain ⟨F, h, hF⟩ := argsK_some h
      have hlen : xs.length = cargs.size := by rw [hx.length]; simp
      have hget : ∀ t v, F.get t = some v → xs[t]? = some v := fun t v ht => by
        rcases hF t v ht with h1 | ⟨_, h1⟩
        · cases h1
        · simpa using h1
      refine codeB_wp (runB_good hkn d) fc.2 h hM ⟨?_, fun t v ht => ?_, rfl, fun t v ht => ?_⟩ fun e F' M' n' g' a' w' h1 h2 h3 h4 => ?_
      · simp [hlen]
      · obtain ⟨cv, h1, h2⟩ := hx.get (hget t v ht)
        have hlt : t < cargs.size := by have := (List.getElem?_eq_some_iff.1 h1).1; simpa using this
        rw [Array.getD_eq_getD_getElem?, Array.getElem?_append_left hlt, ← Array.getElem?_toList, h1]
        exact h2
      · have := (List.getElem?_eq_some_iff.1 (hget t v ht)).1
        omega
      · have fin : retB P F' M' n' fc.1.results.toList K = some r → a'.defers = [] ∧ ∃ v, (results fc.1 a'.tmps).run P w' = .ok v w' ∧ CallPost w0 g M w K r (.returned v) w' := fun h => by
          obtain ⟨v, cv, k1, k2, k3⟩ := ret_run h3 h2 h
          exact ⟨h2.defers, cv, k2, v, cv, M', n', g', rfl, k1, k3, h3, h4⟩
        cases e with
        | normal => exact fin h1
        | ret => exact fin h1
        | _ => cases h1

/-- It comes to 'true'. -/
def isTrue : V → Mm → Nat → Option Unit := fun v _ _ => match v with
  | .bool true => some ()
  | _ => none
/-- A call whose arguments are no memory. -/
theorem closed_call {kn : List Nat} (hkn : Known P kn) {d f : Nat} {xs : List V} (h : runB P kn d f xs .e 0 isTrue = some ()) (w : World) {cargs : Array Value} (hx : RepL (fun _ => none) xs cargs.toList) :
    Calls P f cargs w fun e w' => e = .returned (.bool true) ∧ w.heap.size ≤ w'.heap.size ∧ (∀ b, b < w.heap.size → w'.heap[b]? = w.heap[b]?) ∧ w'.tape = w.tape ∧ w'.os = w.os ∧ w'.output = w.output := by
  have hM : RM w (fun _ => none) .e 0 w := ⟨fun id b h => (by cases h), fun i j x y b c h => (by cases h), fun id x h => (by cases h), Nat.le_refl _, fun _ _ => rfl, rfl, rfl, rfl⟩
  refine (runB_good hkn d _ _ _ _ _ _ _ _ cargs h hM hx).2.mono fun e w' he => ?_
  obtain ⟨v, cv, M', n', g', rfl, h1, h2, h3, h4⟩ := he
  unfold isTrue at h1
  split at h1
  · cases h2
    exact ⟨rfl, h3.size, h3.old, h3.tape, h3.os, h3.output⟩
  · cases h1
theorem known_nil : Known P [] := fun f h => by cases h
/-- One that is known. -/
theorem known_cons {kn : List Nat} (hkn : Known P kn) {d f : Nat} (hb : (bodyOf P f).isSome = true) (h : runB P kn d f [] .e 0 isTrue = some ()) : Known P (f :: kn) := fun k hk => by
  unfold isIn at hk
  split at hk
  · rename_i e
    have := Nat.eq_of_beq_eq_true e
    subst this
    obtain ⟨fc, hfc⟩ := Option.isSome_iff_exists.1 hb
    obtain ⟨h1, h2, h3⟩ := bodyOf_some hfc
    exact ⟨⟨fc.1, fc.2, h1, h2, h3⟩, fun w => closed_call hkn h w (cargs := #[]) .nil⟩
  · exact hkn k hk
end Go.Eb
