/-
The closed evaluator: code, calls.
-/
import Derived.Test.YthglbpibfhfgnaaGreatDoorEb14
import Derived.LoopN
set_option linter.unusedVariables false
set_option linter.unusedSimpArgs false
namespace Go.Eb
variable {A : Type} {P : Program} {w0 : World} {g : Env} {F : Fr} {M : Mm} {n m : Nat} {a : Act} {w : World} {r : A}

/-- What code is asked for. -/
def CodeQ (w0 : World) (g : Env) (M : Mm) (w : World) (m : Nat) (r : A) (K : ExitK A) (Q : Exit → Act → World → Prop) : Prop :=
  ∀ e F' M' n' g' a' w', K e F' M' n' = some r → RF g' F' m a' → RM w0 g' M' n' w' → Mv g M w g' M' w' → Q e a' w'
theorem CodeQ.after {g' : Env} {M' : Mm} {w' : World} {K : ExitK A} {Q : Exit → Act → World → Prop} (h : CodeQ w0 g M w m r K Q) (hm : Mv g M w g' M' w') : CodeQ w0 g' M' w' m r K Q :=
  fun e F2 M2 n2 g2 a2 w2 h1 h2 h3 h4 => h e F2 M2 n2 g2 a2 w2 h1 h2 h3 (hm.trans h4)

theorem codeB_wp [Subsingleton A] {call : CallT A} (hcall : CallGood P w0 call) : ∀ (c : Code) {F : Fr} {M : Mm} {n : Nat} {g : Env} {a : Act} {w : World} {K : ExitK A} {Q : Exit → Act → World → Prop},
    codeB P call m c F M n K = some r → RM w0 g M n w → RF g F m a → CodeQ w0 g M w m r K Q → c.wp P Q a w := by
  intro c
  induction c with
  | skip =>
    intro F M n g a w K Q h hM hF hQ
    rw [codeB] at h
    exact wp_skip (hQ _ _ _ _ _ _ _ h hF hM (.refl g M w))
  | region id ops draw =>
    intro F M n g a w K Q h hM hF hQ
    rw [codeB] at h
    cases draw with
    | true => exact draw_wp hcall h hM hF fun F' M' n' g' a' w' h1 h2 h3 h4 => hQ _ _ _ _ _ _ _ h1 h2 h3 h4
    | false => exact region_wp hcall h hM hF fun F' M' n' g' a' w' h1 h2 h3 h4 => hQ _ _ _ _ _ _ _ h1 h2 h3 h4
  | seq x y ihx ihy =>
    intro F M n g a w K Q h hM hF hQ
    rw [codeB] at h
    refine wp_seq (ihx h hM hF fun e F' M' n' g' a' w' h1 h2 h3 h4 => ?_)
    cases e with
    | normal => exact ihy h1 h3 h2 (hQ.after h4)
    | exit _ => exact hQ _ _ _ _ _ _ _ h1 h2 h3 h4
    | goto _ => exact hQ _ _ _ _ _ _ _ h1 h2 h3 h4
    | ret => exact hQ _ _ _ _ _ _ _ h1 h2 h3 h4
    | panic _ => exact hQ _ _ _ _ _ _ _ h1 h2 h3 h4
    | outgrown => exact hQ _ _ _ _ _ _ _ h1 h2 h3 h4
  | cond c x y ihx ihy =>
    intro F M n g a w K Q h hM hF hQ
    rw [codeB] at h
    cases hc : opnd F c with
    | none => rw [hc] at h; cases h
    | some v =>
      have hv := hF.eval hc
      rw [hc] at h
      cases v with
      | bool b =>
        have he : a.eval c = .bool b := by generalize a.eval c = z at hv; cases hv; rfl
        cases b with
        | true => exact wp_cond_true he (ihx h hM hF hQ)
        | false => exact wp_cond_false he (ihy h hM hF hQ)
      | anyb =>
        replace h := ob_some h; obtain ⟨r1, h1, h2⟩ := h
        obtain rfl : r1 = r := Subsingleton.elim _ _
        generalize hz : a.eval c = z at hv
        cases hv with | anyb b =>
          cases b with
          | true => exact wp_cond_true hz (ihx h1 hM hF hQ)
          | false => exact wp_cond_false hz (ihy h2 hM hF hQ)
      | _ => cases h
  | block id c ih =>
    intro F M n g a w K Q h hM hF hQ
    rw [codeB] at h
    refine wp_block (ih h hM hF fun e F' M' n' g' a' w' h1 h2 h3 h4 => ?_)
    cases e with
    | normal => exact hQ _ _ _ _ _ _ _ h1 h2 h3 h4
    | exit i =>
      unfold blockK at h1
      simp only at h1
      show if i = id then Q .normal a' w' else Q (.exit i) a' w'
      split at h1
      · rename_i hi
        rw [if_pos (Nat.eq_of_beq_eq_true hi)]
        exact hQ _ _ _ _ _ _ _ h1 h2 h3 h4
      · rename_i hi
        rw [if_neg (Nat.ne_of_beq_eq_false hi)]
        exact hQ _ _ _ _ _ _ _ h1 h2 h3 h4
    | goto _ => exact hQ _ _ _ _ _ _ _ h1 h2 h3 h4
    | ret => exact hQ _ _ _ _ _ _ _ h1 h2 h3 h4
    | panic _ => exact hQ _ _ _ _ _ _ _ h1 h2 h3 h4
    | outgrown => exact hQ _ _ _ _ _ _ _ h1 h2 h3 h4
  | loop c ih =>
    intro F M n g a w K Q h hM hF hQ
    rw [codeB] at h
    have key : ∀ (fuel : Nat) {F : Fr} {M : Mm} {n : Nat} {g : Env} {a : Act} {w : World}, loopB fuel (codeB P call m c) F M n K = some r → RM w0 g M n w → RF g F m a → CodeQ w0 g M w m r K Q → Code.rounds P c Q fuel a w := by
      intro fuel
      induction fuel with
      | zero => intro F M n g a w h; cases h
      | succ fuel ihf =>
        intro F M n g a w h hM hF hQ
        have h : codeB P call m c F M n (seqK (loopB fuel (codeB P call m c) · · · K) K) = some r := h
        refine ih h hM hF fun e F' M' n' g' a' w' h1 h2 h3 h4 => ?_
        cases e with
        | normal => exact ihf h1 h3 h2 (hQ.after h4)
        | exit _ => exact hQ _ _ _ _ _ _ _ h1 h2 h3 h4
        | goto _ => exact hQ _ _ _ _ _ _ _ h1 h2 h3 h4
        | ret => exact hQ _ _ _ _ _ _ _ h1 h2 h3 h4
        | panic _ => exact hQ _ _ _ _ _ _ _ h1 h2 h3 h4
        | outgrown => exact hQ _ _ _ _ _ _ _ h1 h2 h3 h4
    exact wp_loop_rounds _ (key _ h hM hF hQ)
  | exit id =>
    intro F M n g a w K Q h hM hF hQ
    rw [codeB] at h
    exact wp_exit (hQ _ _ _ _ _ _ _ h hF hM (.refl g M w))
  | ret =>
    intro F M n g a w K Q h hM hF hQ
    rw [codeB] at h
    exact wp_ret (hQ _ _ _ _ _ _ _ h hF hM (.refl g M w))
  | _ => intro F M n g a w K Q h hM hF hQ; unfold codeB at h; cases h

theorem ress_run (hG : GlobOk P w0) (hM : RM w0 g M n w) (hF : RF g F m a) : ∀ {rs : List ResultVar} {K : List V → Option A}, ressK P F M n rs K = some r → ∃ vs cvs, K vs = some r ∧ (rs.mapM (m := Sem) fun
      | .tmp t => pure (a.tmps.getD t undef)
      | .cell b t => do loadVar t (← asAddr (a.tmps.getD b undef))).run P w = .ok cvs w ∧ RepL g vs cvs
  | [], K, h => ⟨[], [], h, by simp, .nil⟩
  | .tmp t :: rs, K, h => by
    have h : ob (F.get t) (fun v => ressK P F M n rs fun vs => K (v :: vs)) = some r := h
    replace h := ob_some h; obtain ⟨v, hv, h⟩ := h
    obtain ⟨vs, cvs, h1, h2, h3⟩ := ress_run hG hM hF h
    refine ⟨v :: vs, a.tmps.getD t undef :: cvs, h1, ?_, .cons (hF.tmp t v hv) h3⟩
    simp only [List.mapM_cons, Sem.run_bind, Sem.run_pure, Result.andThen_ok, h2]
  | .cell b t :: rs, K, h => by
    have h : ob (F.get b) (fun p => loadB P M n t p fun v _ _ => ressK P F M n rs fun vs => K (v :: vs)) = some r := h
    replace h := ob_some h; obtain ⟨p, hp, h⟩ := h
    obtain ⟨v, cv, h1, h2, h3, _⟩ := loadB_did hG hM (hF.tmp b p hp) h
    obtain ⟨vs, cvs, h4, h5, h6⟩ := ress_run hG hM hF h1
    refine ⟨v :: vs, cv :: cvs, h4, ?_, .cons h3 h6⟩
    have hrep := hF.tmp b p hp
    simp only [List.mapM_cons, Sem.run_bind]
    generalize a.tmps.getD b undef = cp at hrep h2 ⊢
    unfold loadB at h
    split at h
    · cases hrep
      rw [Ev.loadAt_run] at h2
      simp only [Sem.run_bind, Sem.run_pure, Result.andThen_ok, asAddr, h2]
      erw [h5]
      rfl
    · cases hrep
      rw [Ev.loadAt_run] at h2
      simp only [Sem.run_bind, Sem.run_pure, Result.andThen_ok, asAddr, h2]
      erw [h5]
      rfl
    · cases h
theorem one_rep {vs : List V} {cvs : Array Value} (h : RepL g vs cvs.toList) : Rep g (one vs) (if h : cvs.size = 1 then cvs[0] else .tuple cvs) := by
  have hl : vs.length = cvs.size := by rw [h.length]; simp
  split
  · rename_i h1
    cases vs with
    | nil => simp at hl; omega
    | cons v r =>
      cases r with
      | cons _ _ => simp at hl; omega
      | nil =>
        obtain ⟨cv, e1, h2⟩ := h.inv1
        have : cvs[0] = cv := by
          have : cvs.toList[0]? = some cv := by rw [e1]; rfl
          simp at this
          rw [Array.getElem?_eq_getElem (by omega)] at this
          injection this
        rw [this]
        exact h2
  · rename_i h1
    have : one vs = .tup vs := by
      cases vs with
      | nil => rfl
      | cons v r =>
        cases r with
        | nil => simp at hl; omega
        | cons _ _ => rfl
    rw [this]
    exact .tup h
theorem ret_run (hG : GlobOk P w0) {fn : Func} {K : V → Mm → Nat → Option A} (hM : RM w0 g M n w) (hF : RF g F m a) (h : retB P F M n fn.results.toList K = some r) : ∃ v cv, K v M n = some r ∧ (results fn a.tmps).run P w = .ok cv w ∧ Rep g v cv := by
  obtain ⟨vs, cvs, h1, h2, h3⟩ := ress_run hG hM hF h
  refine ⟨one vs, (if h : cvs.toArray.size = 1 then cvs.toArray[0] else .tuple cvs.toArray), h1, ?_, one_rep (by simpa using h3)⟩
  unfold results
  rw [Sem.run_bind]
  have : ((fn.results.mapM (m := Sem) fun
      | .tmp t => pure (a.tmps.getD t undef)
      | .cell b t => do loadVar t (← asAddr (a.tmps.getD b undef))) : Sem (Array Value)).run P w = .ok cvs.toArray w := by
    rw [Array.mapM_eq_mapM_toList]
    show ((List.toArray <$> _ : Sem (Array Value))).run P w = _
    rw [map_eq_pure_bind, Sem.run_bind]
    erw [h2]
    rfl
  erw [this]
  rfl

theorem argsK_some : ∀ {vs : List V} {i : Nat} {F : Fr} {K : Fr → Option A}, argsK vs i F K = some r → ∃ F', K F' = some r ∧ ∀ t v, F'.get t = some v → F.get t = some v ∨ (i ≤ t ∧ vs[t - i]? = some v)
  | [], i, F, K, h => ⟨F, h, fun t v h => .inl h⟩
  | x :: vs, i, F, K, h => by
    have h : T.setK 64 F i (some x) (fun F => argsK vs (Nat.succ i) F K) = some r := h
    rw [T.setK_set] at h
    obtain ⟨F', h1, h2⟩ := argsK_some h
    refine ⟨F', h1, fun t v ht => ?_⟩
    rcases h2 t v ht with h3 | ⟨h3, h4⟩
    · rcases T.get_set h3 with ⟨rfl, e⟩ | ⟨_, h3⟩
      · exact .inr ⟨Nat.le_refl _, by simpa using e⟩
      · exact .inl h3
    · refine .inr ⟨by omega, ?_⟩
      have : t - i = (t - Nat.succ i) + 1 := by omega
      rw [this, List.getElem?_cons_succ]; exact h4

theorem bodyOf_some {f : FuncId} {fc : Func × Code} (h : bodyOf P f = some fc) : P.funcs[f]? = some fc.1 ∧ fc.1.body = some fc.2 ∧ (fc.1.name == "runtime.NumGoroutine") = false := by
  unfold bodyOf at h
  split at h
  · rename_i fn hf
    split at h
    · rename_i c hc
      split at h
      · cases h
      · rename_i hn
        injection h with h; subst h
        exact ⟨hf, hc, hn⟩
    · cases h
  · cases h

/-- What becomes of the world in a call that keeps to itself. -/
structure Aside (w w' : World) : Prop where
  size : w.heap.size ≤ w'.heap.size
  old : ∀ b, b < w.heap.size → w'.heap[b]? = w.heap[b]?
  tape : w'.tape = w.tape
  os : w'.os = w.os
  output : w'.output = w.output
def KnOk (P : Program) (f : FuncId) : KS → Prop
  | .tru => ∀ w, GlobOk P w → Calls P f #[] w fun e w' => Aside w w' ∧ e = .returned (.bool true)
  | .idstr => ∀ w s, s.size ≤ 140737488355328 → GlobOk P w → Calls P f #[.string s] w fun e w' => Aside w w' ∧ e = .returned (.string s)
  | .res v b => ∀ w, GlobOk P w → Calls P f #[] w fun e w' => Aside w w' ∧ ∃ x cv, e = .returned cv ∧ w.heap.size ≤ x.blk ∧ x.blk < w'.heap.size ∧ ∀ (g : Env) (id : Nat), g id = some x → Rep g (shiftV id v) cv ∧ BlkRep g w'.heap x b
/-- What is known of some functions. -/
def Known (P : Program) (kn : List (Nat × KS)) : Prop := ∀ f k, knOf f kn = some k → (∃ fn c, P.funcs[f]? = some fn ∧ fn.body = some c ∧ (fn.name == "runtime.NumGoroutine") = false) ∧ KnOk P f k
theorem RM.grow {w' : World} (h : RM w0 g M n w) (ha : Aside w w') : RM w0 g M n w' ∧ Mv g M w g M w' := by
  refine ⟨⟨fun id b hb => ?_, h.inj, fun id x hx => ?_, Nat.le_trans h.size ha.size, fun b hb => ?_, ha.tape.trans h.tape, ha.os.trans h.os, ha.output.trans h.output, h.top⟩, ⟨.refl g, ha.size, fun b hb _ => ha.old b hb, fun id x c hc hx _ => ⟨id, x, c, hc, hx, rfl⟩, fun _ _ => rfl, Nat.le_refl _⟩⟩
  · obtain ⟨x, hx, hr⟩ := h.rep id b hb
    exact ⟨x, hx, hr.ext (.refl g) (ha.old _ (h.lt id x hx).2.2)⟩
  · have := h.lt id x hx
    exact ⟨this.1, this.2.1, by have := ha.size; omega⟩
  · rw [ha.old b (Nat.lt_of_lt_of_le hb h.size)]; exact h.old b hb
/-- A block that another call has made. -/
theorem RM.adopt {w' : World} (h : RM w0 g M n w) (ha : Aside w w') {b : Blk} {x : Lc} (hx : w.heap.size ≤ x.blk) (hx' : x.blk < w'.heap.size) (hb : BlkRep (updG g n x) w'.heap x b) :
    RM w0 (updG g n x) (M.set n (some b)) (n + 1) w' ∧ Mv g M w (updG g n x) (M.set n (some b)) w' := by
  have hs := h.sub x
  have hn : ∀ c, M.get n = some c → False := fun c hc => by obtain ⟨y, hy, _⟩ := h.rep n c hc; have := (h.lt n y hy).1; omega
  have key : ∀ i c, (M.set n (some b)).get i = some c → (i = n ∧ c = b) ∨ (i ≠ n ∧ M.get i = some c) := fun i c hi => by
    rcases T.get_set hi with ⟨h1, h2⟩ | h
    · injection h2 with h2; exact .inl ⟨h1, h2.symm⟩
    · exact .inr h
  have gold : ∀ i y, i ≠ n → updG g n x i = some y → g i = some y := fun i y hi hy => by rw [updG_other hi] at hy; exact hy
  have gnew : ∀ y, updG g n x n = some y → y = x := fun y hy => by rw [updG_new] at hy; injection hy with hy; exact hy.symm
  have hsz := ha.size
  refine ⟨⟨fun i c hi => ?_, fun i j y z c d hi hj hy hz e => ?_, fun i y hy => ?_, Nat.le_trans h.size hsz, fun k hk => ?_, ha.tape.trans h.tape, ha.os.trans h.os, ha.output.trans h.output, rfl⟩, ⟨hs, hsz, fun k hk _ => ha.old k hk, fun i y c hi hy hyl => ?_, fun i hi => updG_other (by have := h.top; omega), by show g.top ≤ n + 1; have := h.top; omega⟩⟩
  · rcases key i c hi with ⟨rfl, rfl⟩ | ⟨hne, hi⟩
    · exact ⟨x, updG_new, hb⟩
    · obtain ⟨y, hy, hr⟩ := h.rep i c hi
      exact ⟨y, hs i y hy, hr.ext hs (ha.old _ (h.lt i y hy).2.2)⟩
  · rcases key i c hi with ⟨e1, e2⟩ | ⟨hne, hi'⟩ <;> rcases key j d hj with ⟨e3, e4⟩ | ⟨hne', hj'⟩
    · rw [e1, e3]
    · subst e1
      have := gnew y hy; subst this
      have := (h.lt j z (gold j z hne' hz)).2.2; omega
    · subst e3
      have := gnew z hz; subst this
      have := (h.lt i y (gold i y hne hy)).2.2; omega
    · exact h.inj i j y z c d hi' hj' (gold i y hne hy) (gold j z hne' hz) e
  · by_cases hi : i = n
    · subst hi
      have := gnew y hy; subst this
      have := h.size
      exact ⟨by omega, by omega, hx'⟩
    · have := h.lt i y (gold i y hi hy)
      exact ⟨by omega, this.2.1, by omega⟩
  · rw [ha.old k (Nat.lt_of_lt_of_le hk h.size)]; exact h.old k hk
  · rcases key i c hi with ⟨rfl, rfl⟩ | ⟨hne, hi'⟩
    · have := gnew y hy; subst this; omega
    · exact ⟨i, y, c, hi', gold i y hne hy, rfl⟩
theorem RM.globs (h : RM w0 g M n w) (hG : GlobOk P w0) : GlobOk P w := fun k hk => by
  obtain ⟨c, hc, h1⟩ := hG k hk
  have hlt : k < w0.heap.size := by
    unfold World.cell? at hc
    dsimp only at hc
    cases hh : w0.heap[k]? with
    | none => rw [hh] at hc; cases hc
    | some _ => exact (Array.getElem?_eq_some_iff.1 hh).1
  exact ⟨c, by rw [← hc]; unfold World.cell?; dsimp only; rw [h.old k hlt], h1⟩

/-- Every function, to a depth. -/
theorem runB_good [Subsingleton A] {kn : List (Nat × KS)} (hG : GlobOk P w0) (hkn : Known P kn) : ∀ (d : Nat), CallGood P w0 (runB P kn d : CallT A)
  | 0 => ⟨hG, fun f xs M n K r g w cargs h _ _ => by cases h⟩
  | d + 1 => ⟨hG, fun f xs M n K r g w cargs h hM hx => by
    replace h : (match knOf f kn with
      | some k => knB k xs M n K
      | none => ob (bodyOf P f) (fun fc => enterB P (runB P kn d) fc xs M n K)) = some r := h
    have hent : ∀ {fn : Func} {c : Code}, P.funcs[f]? = some fn → fn.body = some c → (fn.name == "runtime.NumGoroutine") = false → (callFunc f cargs).run P w = .ok (.enter f cargs) w := fun {fn c} hf hb hname => by
      simp only [callFunc, program, Sem.run_bind]
      simp [Sem.run, hf, hname, hb]
      simpa using hname
    split at h
    · rename_i k hin
      obtain ⟨⟨fn, c, hf, hb, hname⟩, hc⟩ := hkn f k hin
      refine ⟨hent hf hb hname, ?_⟩
      have hGw := hM.globs hG
      unfold knB at h
      split at h
      · replace h := bb_some h; obtain ⟨hx0, h⟩ := h
        obtain rfl : xs = [] := by simpa using hx0
        obtain rfl : cargs = #[] := by have := hx.inv0; simpa using this
        refine (hc w hGw).mono fun e w' ⟨ha, he⟩ => ?_
        subst he
        obtain ⟨k1, k2⟩ := hM.grow ha
        exact ⟨_, _, M, n, g, rfl, h, .bool _, k1, k2⟩
      · split at h
        · obtain ⟨cv, e1, hr⟩ := hx.inv1
          obtain rfl : cargs = #[cv] := by cases cargs; simp_all
          cases hr with | @str s l e2 hs =>
            refine (hc w s hs hGw).mono fun e w' ⟨ha, he⟩ => ?_
            subst he
            obtain ⟨k1, k2⟩ := hM.grow ha
            exact ⟨_, _, M, n, g, rfl, h, .str e2 hs, k1, k2⟩
        · obtain ⟨cv, e1, hr⟩ := hx.inv1
          obtain rfl : cargs = #[cv] := by cases cargs; simp_all
          cases hr with | @anys lo hi s h1 h2 hs =>
            refine (hc w s hs hGw).mono fun e w' ⟨ha, he⟩ => ?_
            subst he
            obtain ⟨k1, k2⟩ := hM.grow ha
            exact ⟨_, _, M, n, g, rfl, h, .anys h1 h2 hs, k1, k2⟩
        · cases h
      · replace h := bb_some h; obtain ⟨hx0, h⟩ := h
        obtain rfl : xs = [] := by simpa using hx0
        obtain rfl : cargs = #[] := by have := hx.inv0; simpa using this
        rw [newB_eq] at h
        refine (hc w hGw).mono fun e w' ⟨ha, x, cv, he, h1, h2, h3⟩ => ?_
        subst he
        obtain ⟨k1, k2⟩ := h3 (updG g n x) n updG_new
        obtain ⟨k3, k4⟩ := hM.adopt ha h1 h2 k2
        exact ⟨_, _, _, _, updG g n x, rfl, h, k1, k3, k4⟩
    · replace h := ob_some h; obtain ⟨fc, hfc, h⟩ := h
      obtain ⟨hf, hb, hname⟩ := bodyOf_some hfc
      refine ⟨hent hf hb hname, calls_of_wp hf hb ?_⟩
      unfold enterB at h
      obtain ⟨F, h, hF⟩ := argsK_some h
      have hlen : xs.length = cargs.size := by rw [hx.length]; simp
      have hget : ∀ t v, F.get t = some v → xs[t]? = some v := fun t v ht => by
        rcases hF t v ht with h1 | ⟨_, h1⟩
        · cases h1
        · simpa using h1
      refine codeB_wp (runB_good hG hkn d) fc.2 h hM ⟨?_, fun t v ht => ?_, rfl, fun t v ht => ?_⟩ fun e F' M' n' g' a' w' h1 h2 h3 h4 => ?_
      · simp [hlen]
      · obtain ⟨cv, h1, h2⟩ := hx.get (hget t v ht)
        have hlt : t < cargs.size := by have := (List.getElem?_eq_some_iff.1 h1).1; simpa using this
        rw [Array.getD_eq_getD_getElem?, Array.getElem?_append_left hlt, ← Array.getElem?_toList, h1]
        exact h2
      · have := (List.getElem?_eq_some_iff.1 (hget t v ht)).1
        omega
      · have fin : retB P F' M' n' fc.1.results.toList K = some r → a'.defers = [] ∧ ∃ v, (results fc.1 a'.tmps).run P w' = .ok v w' ∧ CallPost w0 g M w K r (.returned v) w' := fun h => by
          obtain ⟨v, cv, k1, k2, k3⟩ := ret_run hG h3 h2 h
          exact ⟨h2.defers, cv, k2, v, cv, M', n', g', rfl, k1, k3, h3, h4⟩
        cases e with
        | normal => exact fin h1
        | ret => exact fin h1
        | _ => cases h1⟩

/-- It comes to 'true'. -/
def isTrue : V → Mm → Nat → Option Unit := fun v _ _ => match v with
  | .bool true => some ()
  | _ => none
theorem rm_start (w : World) : RM w ⟨fun _ => none, 0⟩ .e 0 w := ⟨fun id b h => (by cases h), fun i j x y b c h => (by cases h), fun id x h => (by cases h), Nat.le_refl _, fun _ _ => rfl, rfl, rfl, rfl, rfl⟩
/-- A call whose arguments are no memory. -/
theorem closed_call {kn : List (Nat × KS)} (hkn : Known P kn) {d f : Nat} {xs : List V} (h : runB P kn d f xs .e 0 isTrue = some ()) (w : World) (hG : GlobOk P w) {cargs : Array Value} (hx : RepL ⟨fun _ => none, 0⟩ xs cargs.toList) :
    Calls P f cargs w fun e w' => Aside w w' ∧ e = .returned (.bool true) := by
  refine ((runB_good hG hkn d).2 _ _ _ _ _ _ _ _ cargs h (rm_start w) hx).2.mono fun e w' he => ?_
  obtain ⟨v, cv, M', n', g', rfl, h1, h2, h3, h4⟩ := he
  unfold isTrue at h1
  split at h1
  · cases h2
    exact ⟨⟨h3.size, h3.old, h3.tape, h3.os, h3.output⟩, rfl⟩
  · cases h1
theorem known_nil : Known P [] := fun f k h => by cases h
theorem known_more {kn : List (Nat × KS)} (hkn : Known P kn) {f : Nat} {k : KS} (hb : (bodyOf P f).isSome = true) (h : KnOk P f k) : Known P ((f, k) :: kn) := fun g k' hk => by
  unfold knOf at hk
  split at hk
  · rename_i e
    have := Nat.eq_of_beq_eq_true e
    subst this
    injection hk with hk; subst hk
    obtain ⟨fc, hfc⟩ := Option.isSome_iff_exists.1 hb
    obtain ⟨h1, h2, h3⟩ := bodyOf_some hfc
    exact ⟨⟨fc.1, fc.2, h1, h2, h3⟩, h⟩
  · exact hkn g k' hk
/-- One that comes to true. -/
theorem known_tru {kn : List (Nat × KS)} (hkn : Known P kn) {d f : Nat} (hb : (bodyOf P f).isSome = true) (h : runB P kn d f [] .e 0 isTrue = some ()) : Known P ((f, .tru) :: kn) :=
  known_more hkn hb fun w hG => closed_call hkn h w hG (cargs := #[]) .nil

theorem sc_rep {a b : V} {g' : Env} {cv : Value} (h : sc a b = true) (hb : Rep g b cv) : Rep g' a cv ∧ c1 a = true := by
  unfold sc at h
  split at h
  · rw [eqL_eq, decide_eq_true_eq] at h
    subst h
    cases hb with | str h1 h2 => exact ⟨.str h1 h2, rfl⟩
  · simp only [Bool.and_eq_true, decide_eq_true_eq, eqI_eq] at h
    obtain ⟨rfl, rfl⟩ := h
    cases hb; exact ⟨.int _ _, rfl⟩
  · rename_i x y
    have : x = y := by simpa using h
    subst this
    cases hb; exact ⟨.bool _, rfl⟩
  · cases h
theorem eqTr_get : ∀ {c c' : T V} {k : Nat} {v : V}, eqTr c c' = true → c.get k = some v → ∃ u, c'.get k = some u ∧ sc v u = true
  | .e, .e, k, v, _, h => by cases h
  | .n l x r, .n l' x' r', k, v, he, h => by
    rw [eqTr, Bool.and_eq_true, Bool.and_eq_true] at he
    rw [T.get_n] at h ⊢
    split at h
    · rename_i hk
      rw [if_pos hk]
      subst h
      have := he.1.2
      cases x' with
      | none => cases this
      | some u => exact ⟨u, rfl, this⟩
    · rename_i hk
      rw [if_neg hk]
      split at h
      · rename_i hk1; rw [if_pos hk1]; exact eqTr_get he.1.1 h
      · rename_i hk1; rw [if_neg hk1]; exact eqTr_get he.2 h
  | .e, .n .., k, v, he, h => by simp [eqTr] at he
  | .n .., .e, k, v, he, h => by simp [eqTr] at he
/-- One that makes a slice of scalars. -/
theorem known_res {kn : List (Nat × KS)} (hkn : Known P kn) {d f o e l m : Nat} {ex : Bool} {c : T V} (hb : (bodyOf P f).isSome = true) (h : runB P kn d f [] .e 0 (isRes o e l m ex c) = some ()) : Known P ((f, .res (.sl 0 o e l none) (.cells m ex c)) :: kn) := by
  refine known_more hkn hb fun w hG => ?_
  refine ((runB_good hG hkn d).2 _ _ _ _ _ _ _ _ #[] h (rm_start w) .nil).2.mono fun en w' he => ?_
  obtain ⟨v, cv, M', n', g', rfl, h1, h2, h3, h4⟩ := he
  refine ⟨⟨h3.size, h3.old, h3.tape, h3.os, h3.output⟩, ?_⟩
  unfold isRes at h1
  split at h1
  · rename_i id o' e' l'
    replace h1 := bb_some h1; obtain ⟨hb1, h1⟩ := h1
    simp only [Bool.and_eq_true, Nat.beq_eq] at hb1
    obtain ⟨⟨rfl, rfl⟩, rfl⟩ := hb1
    replace h1 := ob_some h1; obtain ⟨b, hbk, h1⟩ := h1
    split at h1
    · rename_i n2 ex2 c2
      replace h1 := bb_some h1; obtain ⟨hb2, h1⟩ := h1
      simp only [Bool.and_eq_true, Nat.beq_eq, beq_iff_eq] at hb2
      obtain ⟨⟨rfl, rfl⟩, htr⟩ := hb2
      cases h2 with | @sl _ _ _ _ cap _ x p hg he hle hp hc =>
        obtain ⟨y, hy, hblk⟩ := h3.rep id _ hbk
        obtain rfl : x = y := by rw [hg] at hy; injection hy
        have hlt := h3.lt id x hg
        refine ⟨x, _, rfl, hlt.2.1, hlt.2.2, fun g id2 hg2 => ⟨.sl hg2 he hle hp hc, ?_⟩⟩
        obtain ⟨cs, ty, fr, b1, b2, b3, b4, b5, b6⟩ := hblk
        refine ⟨cs, ty, fr, b1, b2, b3, b4, b5, fun k v hk => ?_⟩
        obtain ⟨u, hu, hs⟩ := eqTr_get htr hk
        obtain ⟨k1, _, cv, k3, k4⟩ := b6 k u hu
        obtain ⟨k5, k6⟩ := sc_rep (g' := g) hs k4
        exact ⟨k1, k6, cv, k3, k5⟩
    · cases h1
  · cases h1
end Go.Eb
