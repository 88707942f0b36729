import Derived.Test.YtlkcehghfhdbjaaT1
set_option linter.unusedVariables false
set_option linter.unusedSimpArgs false
/-
From the evaluation of a body to a specification; loops by invariants.
-/
set_option linter.unusedVariables false
set_option linter.unusedSimpArgs false
namespace Go.Ev
variable {P : Program} {E : Env} {s : S} {a : Act} {w : World} {L : List Nat}

def numL : Nat → List AV → List (Nat × AV)
  | _, [] => []
  | i, v :: r => (i, v) :: numL (i + 1) r
/-- Cells that own nothing. -/
def cleanCs : List AV → Bool
  | [] => true
  | .olst _ _ :: _ => false
  | .optr _ _ :: _ => false
  | .omp _ _ :: _ => false
  | .clo _ _ :: _ => false
  | .agg _ :: _ => false
  | .tup _ :: _ => false
  | _ :: r => cleanCs r
theorem cleanCs_noO : ∀ {cs : List AV}, cleanCs cs = true → NoOL cs
  | [], _ => trivial
  | v :: r, h => by
    have : cleanCs r = true ∧ NoO v := by cases v <;> simp_all [cleanCs, NoO]
    exact ⟨this.2, cleanCs_noO this.1⟩
def resK (n : Nat) (ag : Bool) (cs : List AV) : Option AV := if cleanCs (cs.take n) = true ∧ 0 < n ∧ n ≤ cs.length then some (ofCells ag (cs.take n)) else none
def resC (P : Program) (s : S) (t : TypeId) : AV → Option AV
  | .loc id j => ((look id s.b).bind getObj).bind fun e => (aggO P t).bind fun ag => if j ≤ (cellsOf e).length then resK (szT P t) ag ((cellsOf e).drop j) else none
  | _ => none
def resO (P : Program) (s : S) : List ResultVar → Option (List AV)
  | [] => some []
  | .tmp t :: r => (look t s.t).bind fun v => (resO P s r).map fun vs => v :: vs
  | .cell b t :: r => (look b s.t).bind fun p => (resC P s t p).bind fun v => (resO P s r).map fun vs => v :: vs
def oneA : List AV → AV
  | [v] => v
  | vs => .tup vs
/-- What the parameters hold at the end. -/
def foldPs : Nat → Mem → List AV → Option (List AV × Mem × Prop)
  | _, b, [] => some ([], b, True)
  | k, b, v :: r => match fold k b v with
    | some x => (foldPs k x.2.1 r).map fun y => (x.1 :: y.1, y.2.1, x.2.2 ∧ y.2.2)
    | none => (foldPs k b r).map fun y => (.undef :: y.1, y.2.1, y.2.2)
/-- What is told at the end: the result, and what the parameters hold. -/
def leave3 (p : Prop) (v : AV) (Z : List AV → Prop) : Option (List AV × Mem × Prop) → Prop
  | some y => p ∧ y.2.2 ∧ Z (v :: y.1)
  | none => False
def leave2 (params : List AV) (Z : List AV → Prop) : Option (AV × Mem × Prop) → Prop
  | some x => leave3 x.2.2 x.1 Z (foldPs 40 x.2.1 params)
  | none => False
def leave1 (b : Mem) (params : List AV) (Z : List AV → Prop) : Option (List AV) → Prop
  | some vs => leave2 params Z (fold 40 b (oneA vs))
  | none => False
def leaveW (P : Program) (rs : List ResultVar) (params : List AV) (Z : List AV → Prop) (s : S) : Prop := leave1 s.b params Z (resO P s rs)
theorem leave_of {rs : List ResultVar} {params : List AV} {Z : List AV → Prop} {s : S} (h : leaveW P rs params Z s) :
    okP (resO P s rs) fun vs => okP (fold 40 s.b (oneA vs)) fun x => okP (foldPs 40 x.2.1 params) fun y => x.2.2 ∧ y.2.2 ∧ Z (x.1 :: y.1) := by
  unfold leaveW at h
  cases hr : resO P s rs with
  | none => rw [hr] at h; exact h.elim
  | some vs =>
    rw [hr] at h
    show okP (fold 40 s.b (oneA vs)) _
    simp only [leave1] at h
    cases hf : fold 40 s.b (oneA vs) with
    | none => rw [hf] at h; exact h.elim
    | some x =>
      rw [hf] at h
      show okP (foldPs 40 x.2.1 params) _
      simp only [leave2] at h
      cases hg : foldPs 40 x.2.1 params with
      | none => rw [hg] at h; exact h.elim
      | some y => rw [hg] at h; exact h
def endW (P : Program) (rs : List ResultVar) (params : List AV) (Z : List AV → Prop) : Exit → S → Prop
  | .normal, s => leaveW P rs params Z s
  | .ret, s => leaveW P rs params Z s
  | _, _ => False
def enterS (targs : List AV) (m : Nat) : S := { t := numL 0 (unfL targs [] 0).1, b := (unfL targs [] 0).2.1, n := (unfL targs [] 0).2.2, m := m }

theorem look_numL : ∀ {vs : List AV} {i k : Nat} {v : AV}, look k (numL i vs) = some v → ∃ j, k = i + j ∧ vs[j]? = some v
  | [], i, k, v, h => by simp [numL, look] at h
  | u :: r, i, k, v, h => by
    simp only [numL, look] at h
    by_cases hk : i = k
    · rw [if_pos hk] at h; injection h with h; subst h hk; exact ⟨0, rfl, rfl⟩
    · rw [if_neg hk] at h
      obtain ⟨j, e, hj⟩ := look_numL h
      exact ⟨j + 1, by omega, by simpa using hj⟩

theorem resC_run (hR : R E s a w L) {t : TypeId} {p v : AV} {cp : Value} (hp : Rep E p cp []) (h : resC P s t p = some v) : ∃ ad cv, cp = .pointer (some ad) ∧ (loadVar t ad).run P w = .ok cv w ∧ Rep E v cv [] := by
  unfold resC at h
  split at h
  · rename_i id j
    obtain ⟨e, he, h⟩ := Option.bind_eq_some_iff.1 h
    obtain ⟨ag, hag, h⟩ := Option.bind_eq_some_iff.1 h
    split at h
    · rename_i hj
      unfold resK at h
      split at h
      · rename_i hc
        obtain ⟨hcl, hn, hle⟩ := hc
        injection h with h
        subst h
        obtain ⟨blk, hlook, hobj⟩ := Option.bind_eq_some_iff.1 he
        cases blk <;> simp [getObj] at hobj
        subst hobj
        rename_i e _
        obtain ⟨l, hb, _⟩ := hR.get hlook
        cases hb with
        | @obj _ x b cells ty fr l hg ho hx hb hf h1 hh =>
          cases hp with
          | @loc _ _ y b' hg' ho' hb' =>
            obtain rfl : x = y := by rw [hg] at hg'; injection hg'
            obtain rfl : b = b' := by rw [hx] at hb'; injection hb'
            rw [List.length_drop] at hle
            have hsp := mid_split (cellsOf e) j (szT P t) (by omega)
            rw [hsp] at hh
            obtain ⟨v1, v23, l1, l23, hc, rfl, g1, g23⟩ := hh.split
            obtain ⟨v2, v3, l2, l3, rfl, rfl, g2, g3⟩ := g23.split
            obtain rfl := noOL g2 (cleanCs_noO hcl)
            have hv1 : v1.length = j := by rw [← g1.length]; simp; omega
            have hv2 : v2.length = szT P t := by rw [← g2.length]; simp; omega
            have ha : At w.heap b j v2 := by
              intro k v hk
              rw [← hR.heap]
              unfold cellAt
              rw [hb]
              show cells[j + k]? = some v
              rw [← Array.getElem?_toList, hc, List.getElem?_append_right (by omega), List.getElem?_append_left (by
                have := (List.getElem?_eq_some_iff.1 hk).1; omega)]
              rw [show j + k - v1.length = k by omega]
              exact hk
            exact ⟨_, _, rfl, loadVar_run hag (by omega) ha hv2, ofCells_rep g2 (by omega)⟩
      · cases h
    · cases h
  · cases h
theorem res_eval {fn : Func} (hR : R E s a w L) : ∀ {rs : List ResultVar} {vs : List AV}, resO P s rs = some vs → ∃ cvs, (rs.mapM (m := Sem) fun
      | .tmp t => pure (a.tmps.getD t undef)
      | .cell b t => do loadVar t (← asAddr (a.tmps.getD b undef))).run P w = .ok cvs w ∧ RepL E vs cvs []
  | [], vs, h => by simp only [resO, Option.some.injEq] at h; subst h; exact ⟨[], by simp, .nil⟩
  | .tmp t :: r, vs, h => by
    simp only [resO, Option.bind_eq_some_iff, Option.map_eq_some_iff] at h
    obtain ⟨v, hv, us, hu, rfl⟩ := h
    obtain ⟨cvs, h1, h2⟩ := res_eval (fn := fn) hR hu
    refine ⟨a.tmps.getD t undef :: cvs, ?_, .cons (l := []) (m := []) (hR.tmp t v hv) h2⟩
    simp only [List.mapM_cons, Sem.run_bind, Sem.run_pure, Result.andThen_ok, h1]
  | .cell b t :: r, vs, h => by
    simp only [resO, Option.bind_eq_some_iff, Option.map_eq_some_iff] at h
    obtain ⟨p, hp, v, hv, us, hu, rfl⟩ := h
    obtain ⟨cvs, h1, h2⟩ := res_eval (fn := fn) hR hu
    obtain ⟨ad, cv, he, hrun, hrep⟩ := resC_run hR (hR.tmp b p hp) hv
    refine ⟨cv :: cvs, ?_, .cons (l := []) (m := []) hrep h2⟩
    simp only [List.mapM_cons, Sem.run_bind, he]
    have e1 : (asAddr (.pointer (some ad))).run P w = .ok ad w := rfl
    rw [e1, Result.andThen_ok, hrun]
    simp only [Result.andThen_ok, Sem.run_bind, h1, Sem.run_pure]

theorem one_rep {vs : List AV} {cvs : Array Value} (h : RepL E vs cvs.toList []) : Rep E (oneA vs) (if h : cvs.size = 1 then cvs[0] else .tuple cvs) [] := by
  have hl : vs.length = cvs.size := by rw [h.length]; simp
  split
  · rename_i h1
    cases vs with
    | nil => simp at hl; omega
    | cons v r =>
      cases r with
      | cons _ _ => simp at hl; omega
      | nil =>
        obtain ⟨cv, r1, l1, l2, e1, hl', h1', h2⟩ := h.inv
        obtain ⟨rfl, rfl⟩ : l1 = [] ∧ l2 = [] := by simpa using hl'.symm
        have : cvs[0] = cv := by
          have : cvs.toList[0]? = some cv := by rw [e1]; rfl
          simp at this
          rw [Array.getElem?_eq_getElem (by omega)] at this
          injection this
        rw [this]
        exact h1'
  · rename_i h1
    have : oneA vs = .tup vs := by
      cases vs with
      | nil => rfl
      | cons v r =>
        cases r with
        | nil => simp at hl; omega
        | cons _ _ => rfl
    rw [this]
    exact .tup h

structure FoldPs (E : Env) (vs' : List AV) (cvs : List Value) (b b' : Mem) (L l' L' rest : List Nat) : Prop where
  rep : RepL E vs' cvs l'
  blk : Blks E b' L'
  perm : (l' ++ (L' ++ rest)).Perm L
  bd : BdL 0 vs'
  keys : (b'.map (·.1)).Sublist (b.map (·.1))
theorem foldPs_ok (k : Nat) : ∀ {vs vs' : List AV} {b b' : Mem} {p : Prop} {cvs : List Value} {L : List Nat}, foldPs k b vs = some (vs', b', p) → p → RepL E vs cvs [] → Blks E b L → (b.map (·.1)).Nodup →
    ∃ l' L' rest, FoldPs E vs' cvs b b' L l' L' rest
  | [], vs', b, b', p, cvs, L, h, hp, hv, hb, hk => by
    simp only [foldPs, Option.some.injEq, Prod.mk.injEq] at h
    obtain ⟨rfl, rfl, rfl⟩ := h
    cases hv
    exact ⟨[], L, [], .nil, hb, by simp, by simp [BdL], List.Sublist.refl _⟩
  | v :: vs, vs', b, b', p, cvs, L, h, hp, hv, hb, hk => by
    obtain ⟨cv1, cvs', l1, l2, rfl, hl, h1, h2⟩ := hv.inv
    obtain ⟨rfl, rfl⟩ : l1 = [] ∧ l2 = [] := by simpa using hl.symm
    simp only [foldPs] at h
    split at h
    · rename_i x hx
      obtain ⟨y, hy, h⟩ := Option.map_eq_some_iff.1 h
      simp only [Prod.mk.injEq] at h
      obtain ⟨rfl, rfl, rfl⟩ := h
      obtain ⟨lp1, Lr1, rest1, hok1⟩ := (fold_ok_both (E := E) k).1 b v x.1 x.2.1 x.2.2 hx hp.1 cv1 [] L h1 hb hk
      obtain ⟨lp2, Lr2, rest2, hok⟩ := foldPs_ok k (vs' := y.1) (b' := y.2.1) (p := y.2.2) hy hp.2 h2 hok1.blk (hok1.keys.nodup hk)
      refine ⟨lp1 ++ lp2, Lr2, rest2 ++ rest1, .cons hok1.rep hok.rep, hok.blk, ?_, by simp only [BdL]; exact ⟨hok1.bd, hok.bd⟩, hok.keys.trans hok1.keys⟩
      refine List.perm_iff_count.2 fun z => ?_
      have e1 := List.perm_iff_count.1 hok1.perm z
      have e2 := List.perm_iff_count.1 hok.perm z
      simp only [List.count_append, List.count_nil] at e1 e2 ⊢
      omega
    · obtain ⟨y, hy, h⟩ := Option.map_eq_some_iff.1 h
      simp only [Prod.mk.injEq] at h
      obtain ⟨rfl, rfl, rfl⟩ := h
      obtain ⟨lp2, Lr2, rest2, hok⟩ := foldPs_ok k (vs' := y.1) (b' := y.2.1) (p := y.2.2) hy hp h2 hb hk
      exact ⟨lp2, Lr2, rest2, .cons (l := []) (.undef _) hok.rep, hok.blk, hok.perm, by simp only [BdL, Bd, true_and]; exact hok.bd, hok.keys⟩

theorem spec_of {f : FuncId} {fn : Func} {c : Code} {targs : List AV} {res : AV} {outs : List AV} (hf : P.funcs[f]? = some fn) (hname : (fn.name == "runtime.NumGoroutine") = false) (hb : fn.body = some c)
    (hm : targs.length ≤ fn.ntmps)
    (h : codeW (Spec P) P (unfL targs [] 0).2.2 c (endW P fn.results.toList (unfL targs [] 0).1 fun r => r = res :: outs) (enterS targs fn.ntmps)) : Spec P f targs res outs := by
  refine ⟨⟨fn, hf, hname, by rw [hb]; rfl⟩, fun w st vs L hrep hown => ?_⟩
  refine calls_of_wp hf hb ?_
  have hlen : targs.length = vs.size := by rw [hrep.length]; simp
  obtain ⟨g, L1, hun⟩ := unfL_ok (E := bare w.heap st) hown.sub targs vs.toList [] 0 L [] hrep .nil (fun id x h => by cases h) List.nodup_nil (fun k hk => by cases hk)
  have hp : L1.Perm L := by simpa using hun.perm
  let E0 : Env := { h := w.heap, st := st, g := g }
  have hown1 : Own E0 L1 := ⟨hp.nodup_iff.2 hown.nodup, fun b hb => hown.lt b (hp.mem_iff.1 hb), fun b hb => hown.off b (hp.mem_iff.1 hb), hown.stlt, hown.sub⟩
  let a0 : Act := { tmps := vs ++ Array.replicate (fn.ntmps - vs.size) undef, defers := [] }
  have hR : R E0 (enterS targs fn.ntmps) a0 w L1 := by
    refine ⟨rfl, ?_, fun k v hk => ?_, hun.blk, hun.keys, hown1, hun.gn, rfl⟩
    · show fn.ntmps = (vs ++ Array.replicate (fn.ntmps - vs.size) undef).size
      simp; omega
    · obtain ⟨j, rfl, hj⟩ := look_numL hk
      obtain ⟨cv, li, h1, h2, p, q, e⟩ := hun.rep.get hj
      obtain rfl : li = [] := by
        have := congrArg List.length e
        simp at this
        exact List.eq_nil_of_length_eq_zero (by omega)
      have hlt : j < vs.size := by
        have := (List.getElem?_eq_some_iff.1 h1).1; simpa using this
      have : a0.tmps.getD (0 + j) undef = cv := by
        show (vs ++ Array.replicate (fn.ntmps - vs.size) undef).getD (0 + j) undef = cv
        rw [Array.getD_eq_getD_getElem?, Nat.zero_add, Array.getElem?_append_left hlt, ← Array.getElem?_toList, h1]
        rfl
      rw [this]
      exact h2
  have hM : Move E0 w L1 E0 w L1 := .refl hR
  have h0 : Low E0 w := hown.stlt
  refine wp_mono (code_wp (E0 := E0) (w0 := w) (L0 := L1) (fun _ _ _ _ h => h) h0 (n0 := (unfL targs [] 0).2.2) hun.gn c _ _ a0 w h ⟨E0, L1, hR, hM⟩) fun e a' w' hq => ?_
  obtain ⟨s', hq, E, L', hR', hM'⟩ := hq
  have main : leaveW P fn.results.toList (unfL targs [] 0).1 (fun r => r = res :: outs) s' → a'.defers = [] ∧ ∃ v, (results fn a'.tmps).run P w' = .ok v w' ∧ Post w st vs L res outs (.returned v) w' := by
    intro hl
    have hl := leave_of hl
    obtain ⟨us, hus, hl⟩ := okP_of hl
    obtain ⟨⟨r1, b1, p1⟩, hfold1, hl⟩ := okP_of hl
    obtain ⟨⟨r2, b2, p2⟩, hfold2, hpp1, hpp2, hz⟩ := okP_of hl
    simp only at hfold1 hfold2 hpp1 hpp2 hz
    injection hz with hz1 hz2
    subst hz1 hz2
    obtain ⟨cvs, hrun, hrep'⟩ := res_eval (P := P) (fn := fn) hR' hus
    refine ⟨hR'.defers, (if h : cvs.toArray.size = 1 then cvs.toArray[0] else .tuple cvs.toArray), ?_, ?_⟩
    · unfold results
      rw [Sem.run_bind]
      have : ((fn.results.mapM (m := Sem) fun
          | .tmp t => pure (a'.tmps.getD t undef)
          | .cell b t => do loadVar t (← asAddr (a'.tmps.getD b undef))) : Sem (Array Value)).run P w' = .ok cvs.toArray w' := by
        rw [Array.mapM_eq_mapM_toList]
        show ((List.toArray <$> _ : Sem (Array Value))).run P w' = _
        rw [map_eq_pure_bind, Sem.run_bind]
        erw [hrun]
        rfl
      erw [this]
      rfl
    · have hparams : RepL E (unfL targs [] 0).1 vs.toList [] := hun.rep.ext hM'.ext
      obtain ⟨la, La, resta, hoka⟩ := (fold_ok_both (E := E) 40).1 _ _ _ _ _ hfold1 hpp1 _ [] L' (one_rep (by simpa using hrep')) hR'.blk hR'.keys
      obtain ⟨lb, L2, restb, hokb⟩ := foldPs_ok (E := E) 40 hfold2 hpp2 hparams hoka.blk (hoka.keys.nodup hR'.keys)
      obtain ⟨l', hl'⟩ : ∃ l', l' = la ++ lb := ⟨_, rfl⟩
      have hperm : (l' ++ (L2 ++ (restb ++ resta))).Perm L' := by
        subst hl'
        refine List.perm_iff_count.2 fun z => ?_
        have e1 := List.perm_iff_count.1 hoka.perm z
        have e2 := List.perm_iff_count.1 hokb.perm z
        simp only [List.count_append, List.count_nil] at e1 e2 ⊢
        omega
      have hsub : ∀ b ∈ l', b ∈ L' := fun b hb => hperm.mem_iff.1 (by simp [hb])
      have hh : E.h = w'.heap := hR'.heap
      have hrep2 : RepL (bare w'.heap E.st) (r1 :: r2) ((if h : cvs.toArray.size = 1 then cvs.toArray[0] else .tuple cvs.toArray) :: vs.toList) l' := by
        have h1 : RepL E (r1 :: r2) _ l' := hl' ▸ RepL.cons hoka.rep hokb.rep
        have : E = { h := w'.heap, st := E.st, g := E.g } := by rw [← hh]
        rw [this] at h1
        exact h1.base (by simp only [BdL]; exact ⟨hoka.bd, hokb.bd⟩)
      refine ⟨_, E.st, l', rfl, hrep2, ⟨(List.nodup_append.1 (hperm.nodup_iff.2 hR'.own.nodup)).1, fun b hb => ?_, fun b hb => hR'.own.off b (hsub b hb), fun fl b hb => ?_, hR'.own.sub⟩, ⟨hM'.size, fun b hb hn => hM'.keep b hb fun hm => hn (hp.mem_iff.1 hm), fun fl b hb => hM'.ext.st fl b hb, hM'.stF, fun fl b hb => ?_, fun b hb => ?_, hM'.os, hM'.tape, hM'.output⟩⟩
      · show b < w'.heap.size
        rw [← hh]; exact hR'.own.lt b (hsub b hb)
      · show b < w'.heap.size
        rw [← hh]; exact hR'.own.stlt fl b hb
      · rcases hM'.stN fl b hb with h | h | h
        · exact .inl h
        · exact .inr (.inl (hp.mem_iff.1 h))
        · exact .inr (.inr h)
      · rcases hM'.new b (hsub b hb) with h | h
        · exact .inl (hp.mem_iff.1 h)
        · exact .inr h
  cases e with
  | normal => exact main hq
  | ret => exact main hq
  | _ => exact hq.elim
end Go.Ev

/-
The evaluation as a machine of equations: what simp runs.
-/
set_option linter.unusedVariables false
set_option linter.unusedSimpArgs false
namespace Go.Ev
variable {P : Program} {n0 : Nat}

inductive Item where
  | ops (all l : List Oper)
  | code (c : Code)
  | blk (id : Nat)
  | plan (all : List Oper) (pl : List Pl.PStep)
  | back (t : List (Nat × AV)) (d : Option Tmp)
def itemQ (P : Program) (n0 : Nat) : List Item → (Exit → S → Prop) → Exit → S → Prop
  | [], Q => Q
  | .ops all l :: r, Q => seqQ (fun s => opsW (Spec P) P all l s (itemQ P n0 r Q .normal)) (itemQ P n0 r Q)
  | .code c :: r, Q => seqQ (codeW (Spec P) P n0 c (itemQ P n0 r Q)) (itemQ P n0 r Q)
  | .blk id :: r, Q => blockQ id (itemQ P n0 r Q)
  | .plan all pl :: r, Q => seqQ (fun s => planW (Spec P) P all pl s (itemQ P n0 r Q .normal)) (itemQ P n0 r Q)
  | .back t d :: r, Q => seqQ (fun s => itemQ P n0 r Q .normal (backS t d s)) (itemQ P n0 r Q)
/-- What simp is kept from looking into: another argument's type hangs on it. -/
inductive Hid {α : Type} (k : α) : Type where
  | mk
/-- What is still to be run. -/
structure Rest where
  l : List Item
  Q : Exit → S → Prop
/-- What is still to be run behind an operation. -/
structure Tail where
  d : Option Tmp
  all : List Oper
  l : List Oper
  r : List Item
  Q : Exit → S → Prop
def Run (P : Program) (n0 : Nat) {k : Rest} (h : Hid k) (e : Exit) (s : S) : Prop := itemQ P n0 k.l k.Q e s
def tailK (P : Program) (n0 : Nat) (k : Tail) (s : S) (v : AV) : Prop := @Run P n0 ⟨.ops k.all k.l :: k.r, k.Q⟩ .mk .normal (s.put k.d v)
def After (P : Program) (n0 : Nat) {k : Tail} (h : Hid k) (o : Out) : Prop := outW (Spec P) o (tailK P n0 k)
def CallR (P : Program) (n0 : Nat) {k : Tail} (h : Hid k) (s : S) (g : FuncId) (args : List AV) : Prop := ∃ gm, callW (Spec P) s g args gm (tailK P n0 k)
structure DK where
  ops : Array Oper
  r : List Item
  Q : Exit → S → Prop
/-- A region that draws: as it stands, or by a plan. -/
def DrwO (P : Program) (n0 : Nat) (k : DK) (s : S) : Prop := drawOk P k.ops = true ∧ @Run P n0 ⟨.ops k.ops.toList k.ops.toList :: k.r, k.Q⟩ .mk .normal s ∨
  dstsOk k.ops.toList s.m = true ∧ ∃ pl, Pl.planOf stayO P k.ops.toList = some pl ∧ @Run P n0 ⟨.plan k.ops.toList pl :: k.r, k.Q⟩ .mk .normal s
def Drw (P : Program) (n0 : Nat) {k : DK} (h : Hid k) (s : S) : Prop := DrwO P n0 k s ∨ ∃ s', Weak n0 s s' ∧ DrwO P n0 k s'
structure LoopK where
  c : Code
  r : List Item
  Q : Exit → S → Prop
def LoopR (P : Program) (n0 : Nat) {k : LoopK} (h : Hid k) (s : S) : Prop := LoopW n0 (codeW (Spec P) P n0 k.c) (itemQ P n0 k.r k.Q) s

section
variable {all l : List Oper} {r : List Item} {Q : Exit → S → Prop} {s : S} {d : Option Tmp} {op : Op} {ty : TypeId} {pos : String} {aft : Array Edge} {v : AV} {o : Out} {p A B : Prop}
theorem run_nil {e : Exit} : @Run P n0 ⟨[], Q⟩ .mk e s = Q e s := rfl
theorem run_done : @Run P n0 ⟨.ops all [] :: r, Q⟩ .mk .normal s = @Run P n0 ⟨r, Q⟩ .mk .normal s := rfl
theorem run_op : @Run P n0 ⟨.ops all (⟨d, op, ty, pos, aft, none⟩ :: l) :: r, Q⟩ .mk .normal s = @After P n0 ⟨d, all, l, r, Q⟩ .mk (opO P s ty op) := rfl
theorem after_ok : @After P n0 ⟨d, all, l, r, Q⟩ .mk (.ok s v) = @Run P n0 ⟨.ops all l :: r, Q⟩ .mk .normal (s.put d v) := rfl
theorem after_need {k} : @After P n0 k .mk (.need p o) = (p ∧ @After P n0 k .mk o) := rfl
theorem after_hyp {k} : @After P n0 k .mk (.hyp p o) = (p → @After P n0 k .mk o) := rfl
theorem after_all {k} {f : Bool → Out} : @After P n0 k .mk (.all f) = ∀ b, @After P n0 k .mk (f b) := rfl
theorem after_fail {k} : @After P n0 k .mk .fail = False := rfl
theorem after_call {k} {g : FuncId} {args : List AV} : @After P n0 k .mk (.call s g args) = @CallR P n0 k .mk s g args := rfl
theorem run_skip : @Run P n0 ⟨.code .skip :: r, Q⟩ .mk .normal s = @Run P n0 ⟨r, Q⟩ .mk .normal s := rfl
theorem run_region {id : Nat} {ops : Array Oper} : @Run P n0 ⟨.code (.region id ops false) :: r, Q⟩ .mk .normal s = @Run P n0 ⟨.ops ops.toList ops.toList :: r, Q⟩ .mk .normal s := by simp [Run, itemQ, seqQ, codeW, regW]
theorem run_draw {id : Nat} {ops : Array Oper} : @Run P n0 ⟨.code (.region id ops true) :: r, Q⟩ .mk .normal s = @Drw P n0 ⟨ops, r, Q⟩ .mk s := by simp [Run, itemQ, seqQ, codeW, Drw, DrwO, regW]
theorem run_seq {a b : Code} : @Run P n0 ⟨.code (.seq a b) :: r, Q⟩ .mk .normal s = @Run P n0 ⟨.code a :: .code b :: r, Q⟩ .mk .normal s := rfl
theorem run_block {id : Nat} {c : Code} : @Run P n0 ⟨.code (.block id c) :: r, Q⟩ .mk .normal s = @Run P n0 ⟨.code c :: .blk id :: r, Q⟩ .mk .normal s := rfl
theorem run_loop {c : Code} : @Run P n0 ⟨.code (.loop c) :: r, Q⟩ .mk .normal s = @LoopR P n0 ⟨c, r, Q⟩ .mk s := rfl
theorem run_exit {id : Nat} : @Run P n0 ⟨.code (.exit id) :: r, Q⟩ .mk .normal s = @Run P n0 ⟨r, Q⟩ .mk (.exit id) s := rfl
theorem run_ret : @Run P n0 ⟨.code .ret :: r, Q⟩ .mk .normal s = @Run P n0 ⟨r, Q⟩ .mk .ret s := rfl
theorem run_exit_code {c : Code} {id : Nat} : @Run P n0 ⟨.code c :: r, Q⟩ .mk (.exit id) s = @Run P n0 ⟨r, Q⟩ .mk (.exit id) s := rfl
theorem run_ret_code {c : Code} : @Run P n0 ⟨.code c :: r, Q⟩ .mk .ret s = @Run P n0 ⟨r, Q⟩ .mk .ret s := rfl
theorem run_ret_blk {id : Nat} : @Run P n0 ⟨.blk id :: r, Q⟩ .mk .ret s = @Run P n0 ⟨r, Q⟩ .mk .ret s := rfl
theorem run_normal_blk {id : Nat} : @Run P n0 ⟨.blk id :: r, Q⟩ .mk .normal s = @Run P n0 ⟨r, Q⟩ .mk .normal s := rfl
theorem run_exit_same {i : Nat} : @Run P n0 ⟨.blk i :: r, Q⟩ .mk (.exit i) s = @Run P n0 ⟨r, Q⟩ .mk .normal s := by show (if i = i then _ else _) = _; rw [if_pos rfl]; rfl
theorem run_exit_blk {id i : Nat} (hn : i ≠ id) : @Run P n0 ⟨.blk id :: r, Q⟩ .mk (.exit i) s = @Run P n0 ⟨r, Q⟩ .mk (.exit i) s := by show (if i = id then _ else _) = _; rw [if_neg hn]; rfl
structure GK where
  op : Op
  ty : TypeId
  k : Tail
/-- An operation that runs if another one came to so. -/
def Opg (P : Program) (n0 : Nat) {k : GK} (h : Hid k) (s : S) (x : Option Bool) : Prop := ∃ b, x = some b ∧ (b = true → @After P n0 k.k .mk (opO P s k.ty k.op)) ∧ (b = false → @Run P n0 ⟨.ops k.k.all k.k.l :: k.k.r, k.k.Q⟩ .mk .normal (s.put k.k.d (.tup [])))
def gdst {all : List Oper} (h : Hid all) (i : Nat) : Option Tmp := (all[i]?).bind (·.dst)
theorem gdst_zero {o : Oper} : @gdst (o :: l) .mk 0 = o.dst := rfl
theorem gdst_succ {o : Oper} {i : Nat} : @gdst (o :: l) .mk (i + 1) = @gdst l .mk i := rfl
def guardW (w : Bool) (t : List (Nat × AV)) (o : Option Tmp) : Option Bool := (o.bind fun d => look d t).bind (guardOf w)
theorem guardW_some {w : Bool} {t : List (Nat × AV)} {d : Tmp} : guardW w t (some d) = (look d t).bind (guardOf w) := rfl
theorem run_opg {i : Nat} {w : Bool} : @Run P n0 ⟨.ops all (⟨d, op, ty, pos, aft, some (i, w)⟩ :: l) :: r, Q⟩ .mk .normal s = @Opg P n0 ⟨op, ty, ⟨d, all, l, r, Q⟩⟩ .mk s (guardW w s.t (@gdst all .mk i)) := rfl
theorem opg_t : @Opg P n0 ⟨op, ty, ⟨d, all, l, r, Q⟩⟩ .mk s (some true) = @After P n0 ⟨d, all, l, r, Q⟩ .mk (opO P s ty op) := by simp [Opg]
theorem opg_f : @Opg P n0 ⟨op, ty, ⟨d, all, l, r, Q⟩⟩ .mk s (some false) = @Run P n0 ⟨.ops all l :: r, Q⟩ .mk .normal (s.put d (.tup [])) := by simp [Opg]
theorem opg_none {k} : @Opg P n0 k .mk s none = False := by simp [Opg]
/-! A plan's steps. -/
structure PK where
  ks : List Nat
  all : List Oper
  pl : List Pl.PStep
  r : List Item
  Q : Exit → S → Prop
/-- What is taken ahead. -/
def StillA (P : Program) (n0 : Nat) {k : PK} {d : Option Tmp} (h : Hid (k, d)) (s sr : S) (o : Out) : Prop := stillK o sr fun v => @Run P n0 ⟨.plan k.all k.pl :: k.r, k.Q⟩ .mk .normal (s.put d v)
def StillG (P : Program) (n0 : Nat) {k : PK} {d : Option Tmp} {op : Op} {ty : TypeId} (h : Hid (k, d, op, ty)) (s sr : S) (x : Option Bool) : Prop := ∃ b, x = some b ∧ (b = true → @StillA P n0 k d .mk s sr (opS P sr ty op)) ∧ (b = false → @Run P n0 ⟨.plan k.all k.pl :: k.r, k.Q⟩ .mk .normal (s.put d (.tup [])))
def StillAt (P : Program) (n0 : Nat) {rest : List Oper} {k : PK} (h : Hid (rest, k)) (i : Nat) (s : S) : Prop := atW rest i fun o => operS P k.all (restr k.ks s) o fun v => @Run P n0 ⟨.plan k.all k.pl :: k.r, k.Q⟩ .mk .normal (s.put o.dst v)
def ActAt (P : Program) (n0 : Nat) {rest : List Oper} {k : PK} (h : Hid (rest, k)) (i : Nat) (s : S) : Prop := atW rest i fun o => @Run P n0 ⟨.ops k.all [o] :: .back s.t o.dst :: .plan k.all k.pl :: k.r, k.Q⟩ .mk .normal (restr k.ks s)
def RechR (P : Program) {all : List Oper} (h : Hid all) (s : S) (re : List (Nat × List Nat)) : Prop := rechW P all s re
def RechAt (P : Program) {rest all : List Oper} (h : Hid (rest, all)) (i : Nat) (ks : List Nat) (s : S) : Prop := atW rest i fun o => operS P all (restr ks s) o (sameD s.t o.dst)
def RechG (x : Option Bool) (A B : Prop) : Prop := ∃ b, x = some b ∧ (b = true → A) ∧ (b = false → B)
section
variable {all rest : List Oper} {ks : List Nat} {pl : List Pl.PStep} {re : List (Nat × List Nat)} {k : PK} {sr s' : S} {i : Nat} {w : Bool} {gu : Option (Nat × Bool)}
theorem opS_move {x} : opS P s ty (.move x) = opO P s ty (.move x) := rfl
theorem opS_pick {x y z} : opS P s ty (.pick x y z) = opO P s ty (.pick x y z) := rfl
theorem opS_load {x y} : opS P s ty (.load x y) = opO P s ty (.load x y) := rfl
theorem opS_nilCheck {x} : opS P s ty (.nilCheck x) = opO P s ty (.nilCheck x) := rfl
theorem opS_binOp {x y z u v} : opS P s ty (.binOp x y z u v) = opO P s ty (.binOp x y z u v) := rfl
theorem opS_unOp {x y z} : opS P s ty (.unOp x y z) = opO P s ty (.unOp x y z) := rfl
theorem opS_convert {x y z} : opS P s ty (.convert x y z) = opO P s ty (.convert x y z) := rfl
theorem opS_makeFunc {x y z} : opS P s ty (.makeFunc x y z) = opO P s ty (.makeFunc x y z) := rfl
theorem opS_fieldAddr {x y z} : opS P s ty (.fieldAddr x y z) = opO P s ty (.fieldAddr x y z) := rfl
theorem opS_indexAddr {x y z} : opS P s ty (.indexAddr x y z) = opO P s ty (.indexAddr x y z) := rfl
theorem opS_index {x y z} : opS P s ty (.index x y z) = opO P s ty (.index x y z) := rfl
theorem opS_slice {x y z u v} : opS P s ty (.slice x y z u v) = opO P s ty (.slice x y z u v) := rfl
theorem opS_extract {x y} : opS P s ty (.extract x y) = opO P s ty (.extract x y) := rfl
theorem opS_lookup {x y z u} : opS P s ty (.lookup x y z u) = opO P s ty (.lookup x y z u) := rfl
theorem opS_call {x} : opS P s ty (.call x) = opO P s ty (.call x) := rfl
theorem opS_build {t parts} : opS P s ty (.build t parts) = okO (fieldsOf s parts.toList) fun fs => okO (aggOf (zeroT P t)) fun z => okO (fillA P t fs z) fun cs => .need (fieldsOk P t = true) (.ok s (.agg cs)) := rfl
theorem run_plan_still : @Run P n0 ⟨.plan all (.still i ks :: pl) :: r, Q⟩ .mk .normal s = @StillAt P n0 all ⟨ks, all, pl, r, Q⟩ .mk i s := rfl
theorem run_plan_act : @Run P n0 ⟨.plan all (.act re i ks :: pl) :: r, Q⟩ .mk .normal s = (@RechR P all .mk s re ∧ @ActAt P n0 all ⟨ks, all, pl, r, Q⟩ .mk i s) := rfl
theorem run_plan_fin : @Run P n0 ⟨.plan all (.fin re :: pl) :: r, Q⟩ .mk .normal s = (@RechR P all .mk s re ∧ @Run P n0 ⟨r, Q⟩ .mk .normal s) := rfl
theorem run_back {t : List (Nat × AV)} : @Run P n0 ⟨.back t d :: r, Q⟩ .mk .normal s = @Run P n0 ⟨r, Q⟩ .mk .normal (backS t d s) := rfl
theorem stillAt_succ : @StillAt P n0 (⟨d, op, ty, pos, aft, gu⟩ :: rest) k .mk (i + 1) s = @StillAt P n0 rest k .mk i s := rfl
theorem stillAt_plain : @StillAt P n0 (⟨d, op, ty, pos, aft, none⟩ :: rest) k .mk 0 s = @StillA P n0 k d .mk s (restr k.ks s) (opS P (restr k.ks s) ty op) := rfl
theorem stillAt_guard : @StillAt P n0 (⟨d, op, ty, pos, aft, some (i, w)⟩ :: rest) k .mk 0 s = @StillG P n0 k d op ty .mk s (restr k.ks s) (guardW w (restr k.ks s).t (@gdst k.all .mk i)) := rfl
theorem stillA_ok : @StillA P n0 k d .mk s sr (.ok s' v) = (s' = sr ∧ @Run P n0 ⟨.plan k.all k.pl :: k.r, k.Q⟩ .mk .normal (s.put d v)) := rfl
theorem stillA_need : @StillA P n0 k d .mk s sr (.need p o) = (p ∧ @StillA P n0 k d .mk s sr o) := rfl
theorem stillA_hyp : @StillA P n0 k d .mk s sr (.hyp p o) = @StillA P n0 k d .mk s sr o := rfl
theorem stillA_fail : @StillA P n0 k d .mk s sr .fail = False := rfl
theorem stillG_t : @StillG P n0 k d op ty .mk s sr (some true) = @StillA P n0 k d .mk s sr (opS P sr ty op) := by simp [StillG]
theorem stillG_f : @StillG P n0 k d op ty .mk s sr (some false) = @Run P n0 ⟨.plan k.all k.pl :: k.r, k.Q⟩ .mk .normal (s.put d (.tup [])) := by simp [StillG]
theorem actAt_succ : @ActAt P n0 (⟨d, op, ty, pos, aft, gu⟩ :: rest) k .mk (i + 1) s = @ActAt P n0 rest k .mk i s := rfl
theorem actAt_zero : @ActAt P n0 (⟨d, op, ty, pos, aft, gu⟩ :: rest) k .mk 0 s = @Run P n0 ⟨.ops k.all [⟨d, op, ty, pos, aft, gu⟩] :: .back s.t d :: .plan k.all k.pl :: k.r, k.Q⟩ .mk .normal (restr k.ks s) := rfl
theorem rech_nil : @RechR P all .mk s [] = True := rfl
theorem rech_cons : @RechR P all .mk s ((i, ks) :: re) = (@RechAt P all all .mk i ks s ∧ @RechR P all .mk s re) := rfl
theorem rechAt_succ : @RechAt P (⟨d, op, ty, pos, aft, gu⟩ :: rest) all .mk (i + 1) ks s = @RechAt P rest all .mk i ks s := rfl
theorem rechAt_plain : @RechAt P (⟨d, op, ty, pos, aft, none⟩ :: rest) all .mk 0 ks s = stillK (opS P (restr ks s) ty op) (restr ks s) (sameD s.t d) := rfl
theorem rechAt_guard : @RechAt P (⟨d, op, ty, pos, aft, some (i, w)⟩ :: rest) all .mk 0 ks s = RechG (guardW w (restr ks s).t (@gdst all .mk i)) (stillK (opS P (restr ks s) ty op) (restr ks s) (sameD s.t d)) (sameD s.t d (.tup [])) := rfl
theorem rechG_t : RechG (some true) A B = A := by simp [RechG]
theorem rechG_f : RechG (some false) A B = B := by simp [RechG]
theorem rechG_s {b : Bool} : RechG (some b) A B = ((b = true → A) ∧ (b = false → B)) := by simp [RechG]
theorem stillK_ok {K : AV → Prop} : stillK (.ok s' v) s K = (s' = s ∧ K v) := rfl
theorem stillK_need {K : AV → Prop} : stillK (.need p o) s K = (p ∧ stillK o s K) := rfl
theorem stillK_hyp {K : AV → Prop} : stillK (.hyp p o) s K = stillK o s K := rfl
theorem sameD_some {t : List (Nat × AV)} {d : Tmp} : sameD t (some d) v = (look d t = some v) := rfl
theorem sameD_none {t : List (Nat × AV)} : sameD t none v = True := rfl
def consT (k : Nat) (v : Option AV) (l : List (Nat × AV)) : List (Nat × AV) := match v with
  | some v => (k, v) :: l
  | none => l
theorem consT_some {k : Nat} {l : List (Nat × AV)} : consT k (some v) l = (k, v) :: l := rfl
theorem consT_none {k : Nat} {l : List (Nat × AV)} : consT k none l = l := rfl
theorem pickT_nil {t : List (Nat × AV)} : pickT t [] = [] := rfl
theorem pickT_cons {t : List (Nat × AV)} {k : Nat} {r : List Nat} : pickT t (k :: r) = consT k (look k t) (pickT t r) := by simp only [pickT]; cases look k t <;> rfl
theorem restr_eq : restr ks s = ⟨pickT s.t ks, s.b, s.n, s.m⟩ := rfl
theorem backS_none {t : List (Nat × AV)} : backS t none s = ⟨t, s.b, s.n, s.m⟩ := rfl
theorem backS_some {t : List (Nat × AV)} {d : Tmp} : backS t (some d) s = ⟨consT d (look d s.t) t, s.b, s.n, s.m⟩ := by simp only [backS]; cases look d s.t <;> rfl
end
structure BK where
  x : Code
  y : Code
  r : List Item
  Q : Exit → S → Prop
def Branch (P : Program) (n0 : Nat) {k : BK} (h : Hid k) (s : S) (x : Option Bool) : Prop := ∃ b, x = some b ∧ ((b = true → @Run P n0 ⟨.code k.x :: k.r, k.Q⟩ .mk .normal s) ∧ (b = false → @Run P n0 ⟨.code k.y :: k.r, k.Q⟩ .mk .normal s) ∨
  ∃ s', (b = true → @Run P n0 ⟨[.code k.x], joinQ n0 s'⟩ .mk .normal s) ∧ (b = false → @Run P n0 ⟨[.code k.y], joinQ n0 s'⟩ .mk .normal s) ∧ @Run P n0 ⟨k.r, k.Q⟩ .mk .normal s')
theorem run_one {c : Code} {Q : Exit → S → Prop} : @Run P n0 ⟨[.code c], Q⟩ .mk .normal s = codeW (Spec P) P n0 c Q s := rfl
theorem run_cond {c : Operand} {x y : Code} : @Run P n0 ⟨.code (.cond c x y) :: r, Q⟩ .mk .normal s = @Branch P n0 ⟨x, y, r, Q⟩ .mk s ((opnd s c).bind boolOf) := rfl
theorem branch_t {x y : Code} (h : @Run P n0 ⟨.code x :: r, Q⟩ .mk .normal s) : @Branch P n0 ⟨x, y, r, Q⟩ .mk s (some true) := ⟨true, rfl, .inl ⟨fun _ => h, fun e => (by cases e)⟩⟩
theorem branch_f {x y : Code} (h : @Run P n0 ⟨.code y :: r, Q⟩ .mk .normal s) : @Branch P n0 ⟨x, y, r, Q⟩ .mk s (some false) := ⟨false, rfl, .inl ⟨fun e => (by cases e), fun _ => h⟩⟩
theorem branch_none {k} : @Branch P n0 k .mk s none = False := by simp [Branch]
end

/-! ### More is told by less -/
theorem outW_mono {Sp : FuncId → List AV → AV → List AV → Prop} : ∀ {o : Out} {K K' : S → AV → Prop}, (∀ s v, K s v → K' s v) → outW Sp o K → outW Sp o K'
  | .ok s v, _, _, h, hk => h _ _ hk
  | .need p o, _, _, h, hk => ⟨hk.1, outW_mono h hk.2⟩
  | .hyp p o, _, _, h, hk => fun hp => outW_mono h (hk hp)
  | .all f, _, _, h, hk => fun b => outW_mono h (hk b)
  | .call s g args, _, _, h, hk => by
    obtain ⟨gm, hk⟩ := hk
    refine ⟨gm, ?_⟩
    unfold callW okP at *
    split at hk
    · split at hk
      · obtain ⟨h1, h2, res, outs, h3, h4, h5⟩ := hk
        exact ⟨h1, h2, res, outs, h3, h4, h _ _ h5⟩
      · exact hk.elim
    · exact hk.elim
  | .fail, _, _, h, hk => hk.elim
theorem opsW_mono {Sp : FuncId → List AV → AV → List AV → Prop} {all : List Oper} : ∀ {l : List Oper} {s : S} {K K' : S → Prop}, (∀ s, K s → K' s) → opsW Sp P all l s K → opsW Sp P all l s K'
  | [], s, _, _, h, hk => h s hk
  | o :: r, s, _, _, h, hk => by
    unfold opsW at *
    split at hk
    · exact outW_mono (fun _ _ => opsW_mono h) hk
    · obtain ⟨b, h1, h2, h3⟩ := hk
      exact ⟨b, h1, fun hb => outW_mono (fun _ _ => opsW_mono h) (h2 hb), fun hb => opsW_mono h (h3 hb)⟩
theorem stillK_mono {o : Out} {s : S} {K K' : AV → Prop} (h : ∀ v, K v → K' v) : stillK o s K → stillK o s K' := by
  induction o with
  | ok s' v => exact fun hk => ⟨hk.1, h v hk.2⟩
  | need p o ih => exact fun hk => ⟨hk.1, ih hk.2⟩
  | hyp p o ih => exact fun hk => ih hk
  | all f ih => exact fun hk => hk
  | call s g args => exact fun hk => hk
  | fail => exact fun hk => hk
theorem operS_mono {all : List Oper} {o : Oper} {s : S} {K K' : AV → Prop} (h : ∀ v, K v → K' v) : operS P all s o K → operS P all s o K' := by
  unfold operS
  split
  · exact stillK_mono h
  · rintro ⟨b, h1, h2, h3⟩
    exact ⟨b, h1, fun hb => stillK_mono h (h2 hb), fun hb => h _ (h3 hb)⟩
theorem atW_mono {all : List Oper} {i : Nat} {K K' : Oper → Prop} (h : ∀ o, K o → K' o) : atW all i K → atW all i K' := by
  unfold atW
  split
  · exact h _
  · exact id
theorem planW_mono {Sp : FuncId → List AV → AV → List AV → Prop} {all : List Oper} : ∀ {pl : List Pl.PStep} {s : S} {K K' : S → Prop}, (∀ s, K s → K' s) → planW Sp P all pl s K → planW Sp P all pl s K'
  | [], _, _, _, _, hk => hk
  | .still i ks :: k, s, K, K', h, hk => by
    simp only [planW] at hk ⊢
    exact atW_mono (fun o => operS_mono fun v => planW_mono h) hk
  | .act re i ks :: k, s, K, K', h, hk => by
    simp only [planW] at hk ⊢
    exact ⟨hk.1, atW_mono (fun o => opsW_mono fun s' => planW_mono h) hk.2⟩
  | .fin re :: k, s, K, K', h, hk => by
    simp only [planW] at hk ⊢
    exact ⟨hk.1, h _ hk.2⟩
theorem codeW_mono {Sp : FuncId → List AV → AV → List AV → Prop} : ∀ {c : Code} {s : S} {Q Q' : Exit → S → Prop}, (∀ e s, Q e s → Q' e s) → codeW Sp P n0 c Q s → codeW Sp P n0 c Q' s := by
  intro c
  induction c with
  | skip => intro s Q Q' h hk; exact h _ _ hk
  | region id ops draw =>
    intro s Q Q' h hk
    have old : ∀ {s}, regW Sp P ops draw (Q .normal) s → regW Sp P ops draw (Q' .normal) s := fun hk => by
      rcases hk with hk | ⟨h1, h2, pl, h3, h4⟩
      · exact .inl ⟨hk.1, opsW_mono (fun s => h .normal s) hk.2⟩
      · exact .inr ⟨h1, h2, pl, h3, planW_mono (fun s => h .normal s) h4⟩
    rcases hk with hk | ⟨hd, s', hw, hk⟩
    · exact .inl (old hk)
    · exact .inr ⟨hd, s', hw, old hk⟩
  | seq x y ihx ihy =>
    intro s Q Q' h hk
    refine ihx (fun e s hq => ?_) hk
    cases e with
    | normal => exact ihy h hq
    | _ => exact h _ _ hq
  | cond c x y ihx ihy =>
    intro s Q Q' h hk
    obtain ⟨b, h1, (⟨h2, h3⟩ | ⟨s', h2, h3, h4⟩)⟩ := hk
    · exact ⟨b, h1, .inl ⟨fun hb => ihx h (h2 hb), fun hb => ihy h (h3 hb)⟩⟩
    · exact ⟨b, h1, .inr ⟨s', h2, h3, h _ _ h4⟩⟩
  | block id c ih =>
    intro s Q Q' h hk
    refine ih (fun e s hq => ?_) hk
    cases e with
    | exit i =>
      simp only [blockQ] at hq ⊢
      split at hq
      · rename_i hi; rw [if_pos hi]; exact h _ _ hq
      · rename_i hi; rw [if_neg hi]; exact h _ _ hq
    | _ => exact h _ _ hq
  | loop c ih =>
    intro s Q Q' h hk
    obtain ⟨n, hk⟩ := hk
    refine ⟨n, ?_⟩
    induction n generalizing s with
    | zero => exact hk.elim
    | succ n ihn =>
      obtain ⟨s', hw, hk⟩ := hk
      refine ⟨s', hw, ih (fun e s hq => ?_) hk⟩
      cases e with
      | normal => exact ihn hq
      | _ => exact h _ _ hq
  | exit id => intro s Q Q' h hk; exact h _ _ hk
  | ret => intro s Q Q' h hk; exact h _ _ hk
  | _ => intro s Q Q' h hk; exact hk.elim

theorem iter_weak {f : (Exit → S → Prop) → S → Prop} {Q : Exit → S → Prop} {n : Nat} {s s' : S} (hw : Weak n0 s s') (h : iter n0 f Q n s') : iter n0 f Q n s := by
  cases n with
  | zero => exact h.elim
  | succ n => obtain ⟨s'', h1, h2⟩ := h; exact ⟨s'', hw.trans h1, h2⟩
theorem iter_more {c : Code} {Sp : FuncId → List AV → AV → List AV → Prop} {Q : Exit → S → Prop} : ∀ {n : Nat} {s : S}, iter n0 (codeW Sp P n0 c) Q n s → iter n0 (codeW Sp P n0 c) Q (n + 1) s
  | 0, s, h => h.elim
  | n + 1, s, h => by
    obtain ⟨s', hw, h⟩ := h
    refine ⟨s', hw, codeW_mono (fun e s hq => ?_) h⟩
    cases e with
    | normal => exact iter_more hq
    | _ => exact hq
theorem iter_le {c : Code} {Sp : FuncId → List AV → AV → List AV → Prop} {Q : Exit → S → Prop} {n m : Nat} {s : S} (hl : n ≤ m) (h : iter n0 (codeW Sp P n0 c) Q n s) : iter n0 (codeW Sp P n0 c) Q m s := by
  induction hl with
  | refl => exact h
  | step _ ih => exact iter_more ih

theorem loop_rule {c : Code} {r : List Item} {Q : Exit → S → Prop} {s : S} (I : Nat → S → Prop) (n : Nat) (s' : S) (hw : Weak n0 s s') (h0 : I n s')
    (step : ∀ n s, I n s → @Run P n0 ⟨[.code c], fun e s => match e with | .normal => ∃ m, m < n ∧ ∃ s', Weak n0 s s' ∧ I m s' | e => @Run P n0 ⟨r, Q⟩ .mk e s⟩ .mk .normal s) : @LoopR P n0 ⟨c, r, Q⟩ .mk s := by
  have key : ∀ n s, I n s → iter n0 (codeW (Spec P) P n0 c) (itemQ P n0 r Q) (n + 1) s := by
    intro n
    induction n using Nat.strongRecOn with
    | _ n ih =>
      intro s hI
      refine ⟨s, .drop rfl (fun _ _ h => .inr h) (List.Sublist.refl _) (Nat.le_refl _), codeW_mono (fun e s hq => ?_) (step n s hI)⟩
      cases e with
      | normal =>
        obtain ⟨m, hm, s', hw, hI'⟩ := hq
        exact iter_weak hw (iter_le hm (ih m hm s' hI'))
      | _ => exact hq
  exact ⟨n + 1, iter_weak hw (key n s' h0)⟩

theorem spec_run {f : FuncId} {fn : Func} {c : Code} {targs : List AV} {res : AV} {outs : List AV} (hf : P.funcs[f]? = some fn) (hname : (fn.name == "runtime.NumGoroutine") = false) (hb : fn.body = some c) (hm : targs.length ≤ fn.ntmps)
    (h : @Run P (unfL targs [] 0).2.2 ⟨[.code c], endW P fn.results.toList (unfL targs [] 0).1 fun r => r = res :: outs⟩ .mk .normal (enterS targs fn.ntmps)) : Spec P f targs res outs := spec_of hf hname hb hm h
end Go.Ev

/-
The equations that the evaluation runs by.
-/
set_option linter.unusedVariables false
namespace Go.Ev

theorem put_some {t : List (Nat × AV)} {b : Mem} {n m d : Nat} {v : AV} : S.put ⟨t, b, n, m⟩ (some d) v = if d < m then ⟨(d, v) :: t, b, n, m⟩ else ⟨t, b, n, m⟩ := rfl
theorem put_none {s : S} {v : AV} : S.put s none v = s := rfl
theorem look_nil {α : Type} {k : Nat} : look k ([] : List (Nat × α)) = none := rfl
theorem look_cons {α : Type} {k k' : Nat} {v : α} {r : List (Nat × α)} : look k ((k', v) :: r) = if k' = k then some v else look k r := rfl
theorem setB_nil {k : Nat} {v : Blk} : setB k v [] = [] := rfl
theorem setB_cons {k k' : Nat} {v u : Blk} {r : Mem} : setB k v ((k', u) :: r) = if k' = k then (k', v) :: r else (k', u) :: setB k v r := rfl
theorem delB_nil {k : Nat} : delB k [] = [] := rfl
theorem delB_cons {k k' : Nat} {u : Blk} {r : Mem} : delB k ((k', u) :: r) = if k' = k then r else (k', u) :: delB k r := rfl

theorem cellsOf_agg {cs : List AV} : cellsOf (.agg cs) = cs := rfl
theorem cellsOf_bool {b : Bool} : cellsOf (.bool b) = [.bool b] := rfl
theorem cellsOf_int {k : IntKind} {n : Int} : cellsOf (.int k n) = [.int k n] := rfl
theorem cellsOf_str {s : ByteArray} : cellsOf (.str s) = [.str s] := rfl
theorem cellsOf_nilp  : cellsOf .nilp = [.nilp] := rfl
theorem cellsOf_loc {i j : Nat} : cellsOf (.loc i j) = [.loc i j] := rfl
theorem cellsOf_elp {i n k j : Nat} : cellsOf (.elp i n k j) = [.elp i n k j] := rfl
theorem cellsOf_fz {cs : List AV} : cellsOf (.fz cs) = [.fz cs] := rfl
theorem cellsOf_optr {e : AV} {j : Nat} : cellsOf (.optr e j) = [.optr e j] := rfl
theorem cellsOf_lst {f : Bool} {z : Nat} {l : List AV} : cellsOf (.lst f z l) = [.lst f z l] := rfl
theorem cellsOf_row {i n o l : Nat} : cellsOf (.row i n o l) = [.row i n o l] := rfl
theorem cellsOf_rowc {i n o l : Nat} : cellsOf (.rowc i n o l) = [.rowc i n o l] := rfl
theorem cellsOf_olst {z : Nat} {l : List AV} : cellsOf (.olst z l) = [.olst z l] := rfl
theorem cellsOf_tup {vs : List AV} : cellsOf (.tup vs) = [.tup vs] := rfl
theorem cellsOf_nilf  : cellsOf .nilf = [.nilf] := rfl
theorem cellsOf_clo {f : Nat} {cs : List AV} : cellsOf (.clo f cs) = [.clo f cs] := rfl
theorem cellsOf_nili  : cellsOf .nili = [.nili] := rfl
theorem cellsOf_nilm  : cellsOf .nilm = [.nilm] := rfl
theorem cellsOf_mp {i : Nat} : cellsOf (.mp i) = [.mp i] := rfl
theorem cellsOf_omp {a b : List AV} : cellsOf (.omp a b) = [.omp a b] := rfl
theorem cellsOf_undef  : cellsOf .undef = [.undef] := rfl
attribute [push_cast] cellsOf_agg cellsOf_bool cellsOf_int cellsOf_str cellsOf_nilp cellsOf_loc cellsOf_elp cellsOf_fz cellsOf_optr cellsOf_lst cellsOf_row cellsOf_rowc cellsOf_olst cellsOf_tup cellsOf_nilf cellsOf_clo cellsOf_nili cellsOf_nilm cellsOf_mp cellsOf_omp cellsOf_undef
attribute [go_sem ↓] run_nil run_done run_op run_opg run_skip run_region run_draw run_seq run_cond run_block run_loop run_plan_still run_plan_act run_plan_fin run_back run_exit_same run_exit run_ret run_exit_code run_ret_code run_ret_blk run_normal_blk run_exit_blk
  after_ok after_need after_hyp after_all after_fail after_call
attribute [push_cast] opS_move opS_pick opS_load opS_nilCheck opS_binOp opS_unOp opS_convert opS_makeFunc opS_fieldAddr opS_indexAddr opS_index opS_slice opS_extract opS_lookup opS_call opS_build stillAt_succ stillAt_plain stillAt_guard stillA_ok stillA_need stillA_hyp stillA_fail stillG_t stillG_f actAt_succ actAt_zero rech_nil rech_cons rechAt_succ rechAt_plain rechAt_guard rechG_t rechG_f rechG_s stillK_ok stillK_need stillK_hyp sameD_some sameD_none consT_some consT_none pickT_nil pickT_cons restr_eq backS_none backS_some
attribute [push_cast] gdst_zero gdst_succ guardW_some opg_t opg_f opg_none branch_none guardOf
  put_some put_none look_nil look_cons setB_nil setB_cons delB_nil delB_cons okO_some okO_none okP_some
  opO opnd opnds opndsT C1 allC1 ofV ofV1 ofCells reCells putAt moveO boxO pickO boolOf tupOf aggOf nilT unf unfL loadO loadE loadK storeO elsO rowAt ownAt getRow getObj binO unO convO indexAddrO indexArrO idxAddrO indexO fieldAddrO
  bnd sliceO lenO frz1 frzC frzV frzL appK overK appendO copyO clearO nilO lend lendL giveL lendA back1 backC back backG noFG callO putN nilCheckO buildSliceO fillA minmaxO one1 two2 builtinO elemK fieldsOf fold foldL foldPs resO resC resK cleanCs oneA leaveW leave1 leave2 leave3 endW enterS numL
  Bd BdL NoF NoFL NoO NoOL low lowL eqK eqLK keyK mapK intOf mapSetO mapOf lookK makeMapO getMap Option.getD_some Option.getD_none
  Option.bind_some Option.bind_none Option.map_some Option.map_none Option.isNone_none Option.isNone_some Option.isSome_some Option.isSome_none
  List.map_cons List.map_nil List.length_cons List.length_nil List.take_succ_cons List.take_zero List.drop_succ_cons List.drop_zero List.take_nil List.drop_nil List.cons_append List.nil_append List.append_nil List.getElem?_cons_succ List.getElem?_cons_zero List.getElem?_nil
  Bool.and_true Bool.true_and Bool.and_false Bool.false_and Bool.or_true Bool.true_or Bool.or_false Bool.false_or Bool.not_true Bool.not_false List.length_map List.headD_cons List.headD_nil List.tail_cons
  and_true true_and and_false false_and or_true true_or or_false false_or not_true_eq_false not_false_eq_true
end Go.Ev
namespace Go.Ev
theorem bdL_map {α : Type} {n : Nat} {f : α → AV} {l : List α} : BdL n (l.map f) = ∀ r ∈ l, Bd n (f r) := by
  apply propext; rw [bdL_iff]; simp
theorem noOL_map {α : Type} {f : α → AV} {l : List α} : NoOL (l.map f) = ∀ r ∈ l, NoO (f r) := by
  apply propext; rw [noOL_iff]; simp
theorem noFL_map {α : Type} {f : α → AV} {l : List α} : NoFL (l.map f) = ∀ r ∈ l, NoF (f r) := by
  apply propext; rw [noFL_iff]; simp
theorem lowL_map {α : Type} {f : α → AV} {l : List α} : lowL (l.map f) = l.map fun r => low (f r) := by
  induction l with
  | nil => rfl
  | cons a l ih => simp [lowL, ih]
attribute [push_cast] bdL_map noOL_map noFL_map lowL_map implies_true forall_const
def subL : List (Nat × AV) → List (Nat × AV) → Prop
  | [], _ => True
  | (k, v) :: r, t => look k t = some v ∧ subL r t
theorem subL_look : ∀ {t' t : List (Nat × AV)}, subL t' t → ∀ k v, look k t' = some v → look k t = some v
  | [], _, _, _, _, h => by simp [look] at h
  | (k', v') :: r, t, hs, k, v, h => by
    simp only [look] at h
    by_cases hk : k' = k
    · rw [if_pos hk] at h; injection h with h; subst h hk; exact hs.1
    · rw [if_neg hk] at h; exact subL_look hs.2 k v h
theorem subL_nil {t : List (Nat × AV)} : subL [] t = True := rfl
theorem subL_cons {k : Nat} {v : AV} {r t : List (Nat × AV)} : subL ((k, v) :: r) t = (look k t = some v ∧ subL r t) := rfl
attribute [push_cast] subL_nil subL_cons Option.some.injEq AV.int.injEq AV.bool.injEq AV.str.injEq AV.row.injEq AV.lst.injEq AV.agg.injEq AV.loc.injEq
theorem weak_drop {n0 n n' m : Nat} {t t' : List (Nat × AV)} {b b' : Mem} (ht : subL t' t) (hb : b'.Sublist b) (hn : n ≤ n') : Weak n0 ⟨t, b, n, m⟩ ⟨t', b', n', m⟩ := .drop rfl (fun k v h => .inr (subL_look ht k v h)) hb hn
end Go.Ev

/-
Texts by their bytes; conditions that are split; calls by their specification.
-/
set_option linter.unusedVariables false
namespace Go.Ev

/-- A text out of its bytes. -/
def ofL (l : List UInt8) : ByteArray := ⟨⟨l⟩⟩
theorem ofL_size {l : List UInt8} : (ofL l).size = l.length := rfl
theorem ofL_data {l : List UInt8} : (ofL l).data.toList = l := rfl
theorem ofL_mk {l : List UInt8} : ByteArray.mk (List.toArray l) = ofL l := rfl
theorem ofL_of (a : ByteArray) : a = ofL a.data.toList := rfl
theorem toList_loop : ∀ (k : Nat) (a : ByteArray) (i : Nat) (r : List UInt8), a.size - i = k → ByteArray.toList.loop a i r = r.reverse ++ a.data.toList.drop i
  | 0, a, i, r, h => by
    rw [ByteArray.toList.loop]
    have h1 : a.data.toList.length ≤ i := by have : a.data.size = a.size := rfl; simp; omega
    rw [if_neg (by omega), List.drop_eq_nil_of_le h1, List.append_nil]
  | k + 1, a, i, r, h => by
    rw [ByteArray.toList.loop]
    have h1 : i < a.data.toList.length := by have : a.data.size = a.size := rfl; simp; omega
    rw [if_pos (by omega), toList_loop k a (i + 1) _ (by omega), List.drop_eq_getElem_cons h1]
    have : a.get! i = a.data.toList[i] := by
      have h2 : i < a.data.size := by simpa using h1
      show a.data[i]! = _
      rw [getElem!_pos a.data i h2]
      simp
    simp [this]
theorem ofL_toList {l : List UInt8} : (ofL l).toList = l := by
  unfold ByteArray.toList
  rw [toList_loop _ _ 0 [] rfl]
  rfl
theorem ofL_append {a b : List UInt8} : ofL a ++ ofL b = ofL (a ++ b) := by
  show ByteArray.append _ _ = _
  simp [ByteArray.append, ofL, ByteArray.copySlice, ByteArray.size]
theorem ofL_inj {a b : List UInt8} : (ofL a = ofL b) = (a = b) := by
  simp [ofL]
theorem ofL_extract {l : List UInt8} {i j : Nat} : (ofL l).extract i j = ofL ((l.drop i).take (j - i)) := by
  apply ByteArray.ext
  rw [ByteArray.data_extract]
  apply Array.ext'
  simp [ofL]
attribute [push_cast] ofL_size ofL_data ofL_mk ofL_toList ofL_append ofL_inj ofL_extract
end Go.Ev

/-
Conditions that are split; calls by their specification; loops over a list.
-/
set_option linter.unusedVariables false
namespace Go.Ev
variable {P : Program} {n0 : Nat}
section
variable {all l : List Oper} {r : List Item} {Q : Exit → S → Prop} {s : S} {d : Option Tmp} {op : Op} {ty : TypeId} {pos : String} {aft : Array Edge} {v : AV} {o : Out} {p A B : Prop}
theorem cond_split {x y : Code} {b : Bool} (ht : b = true → @Run P n0 ⟨.code x :: r, Q⟩ .mk .normal s) (hf : b = false → @Run P n0 ⟨.code y :: r, Q⟩ .mk .normal s) : @Branch P n0 ⟨x, y, r, Q⟩ .mk s (some b) := ⟨b, rfl, .inl ⟨ht, hf⟩⟩
theorem guard_split {b : Bool} (ht : b = true → @After P n0 ⟨d, all, l, r, Q⟩ .mk (opO P s ty op)) (hf : b = false → @Run P n0 ⟨.ops all l :: r, Q⟩ .mk .normal (s.put d (.tup []))) :
    @Opg P n0 ⟨op, ty, ⟨d, all, l, r, Q⟩⟩ .mk s (some b) := ⟨b, rfl, ht, hf⟩
theorem drw_intro {ops : Array Oper} (hd : drawOk P ops = true) (hk : @Run P n0 ⟨.ops ops.toList ops.toList :: r, Q⟩ .mk .normal s) : @Drw P n0 ⟨ops, r, Q⟩ .mk s := .inl (.inl ⟨hd, hk⟩)
theorem drw_plan {ops : Array Oper} {t : List (Nat × AV)} {b : Mem} {n m : Nat} (pl : List Pl.PStep) (hp : Pl.planOf stayO P ops.toList = some pl) (hd : dstsOk ops.toList m = true) (hk : @Run P n0 ⟨.plan ops.toList pl :: r, Q⟩ .mk .normal ⟨t, b, n, m⟩) : @Drw P n0 ⟨ops, r, Q⟩ .mk ⟨t, b, n, m⟩ :=
  .inl (.inr ⟨hd, pl, hp, hk⟩)
theorem drw_id {k : DK} (h : @Drw P n0 k .mk s) : @Drw P n0 k .mk s := h
def owns1 : AV → Bool
  | .olst _ _ => true
  | .optr _ _ => true
  | .omp _ _ => true
  | _ => false
def ownsL : List AV → Bool
  | [] => false
  | v :: r => owns1 v || ownsL r
theorem okP_none {α : Type} (K : α → Prop) : okP none K = False := rfl
theorem opnS_eq {n m id : Nat} {t : List (Nat × AV)} {b : Mem} {e : AV} : opnS ⟨t, b, n, m⟩ id e = ⟨t, (id, .obj (reCells e (unfL (cellsOf e) (delB id b) n).1)) :: (unfL (cellsOf e) (delB id b) n).2.1, (unfL (cellsOf e) (delB id b) n).2.2, m⟩ := rfl
attribute [push_cast] owns1 ownsL okP_none opnS_eq
/-- An object's own memory is laid open ahead of a region that draws. -/
theorem drw_open {k : DK} {t : List (Nat × AV)} {b : Mem} {n m : Nat} (id : Nat) (hk : okP ((look id b).bind getObj) fun e => ownsL (cellsOf e) = true ∧ @Drw P n0 k .mk (opnS ⟨t, b, n, m⟩ id e)) : @Drw P n0 k .mk ⟨t, b, n, m⟩ := by
  obtain ⟨e, he, _, hk⟩ := okP_of hk
  obtain ⟨blk, hb, he⟩ := Option.bind_eq_some_iff.1 he
  cases blk <;> simp [getObj] at he
  subst he
  have hw := Weak.opn (n0 := n0) (s := ⟨t, b, n, m⟩) id _ hb
  rcases hk with hk | ⟨s', hw', hk⟩
  · exact .inr ⟨_, hw, hk⟩
  · exact .inr ⟨_, hw.trans hw', hk⟩
theorem still_split {k : PK} {op : Op} {ty : TypeId} {sr : S} {b : Bool} (ht : b = true → @StillA P n0 k d .mk s sr (opS P sr ty op)) (hf : b = false → @Run P n0 ⟨.plan k.all k.pl :: k.r, k.Q⟩ .mk .normal (s.put d (.tup []))) : @StillG P n0 k d op ty .mk s sr (some b) := ⟨b, rfl, ht, hf⟩
/-- A call of a function whose specification is known. -/
theorem call_by {g : FuncId} {args : List AV} (gm : List Bool) {ta : List AV} {res : AV} {outs : List AV} (hs : Spec P g ta res outs) {x : List AV × Mem × Prop} {y : List AV × List Nat × Prop}
    (hg : giveL gm s.b args = some x) (hl : lendA gm x.2.1 x.1 = some y) (ht : y.1 = ta) (hp : x.2.2 ∧ y.2.2 ∧ (y.2.1 = [] ∨ NoF res ∧ noFG gm outs))
    (hk : @Run P n0 ⟨.ops all l :: r, Q⟩ .mk .normal ((putN s (unf res (backG gm x.2.1 args outs) s.n)).put d (unf res (backG gm x.2.1 args outs) s.n).1)) : @CallR P n0 ⟨d, all, l, r, Q⟩ .mk s g args := by
  refine ⟨gm, ?_⟩
  unfold callW
  rw [hg]
  show okP (lendA gm x.2.1 x.1) _
  rw [hl]
  exact ⟨hp.1, hp.2.1, res, outs, ht ▸ hs, hp.2.2, hk⟩
end

theorem beq_int {a b : Int} : (a == b) = decide (a = b) := rfl
theorem bne_int {a b : Int} : (a != b) = !decide (a = b) := by by_cases h : a = b <;> simp [h]
theorem beq_bool {a b : Bool} : (a == b) = decide (a = b) := by cases a <;> cases b <;> rfl
attribute [push_cast] beq_bool ne_eq
theorem beq_list {a b : List UInt8} : (a == b) = decide (a = b) := by
  by_cases h : a = b
  · simp [h]
  · have : (a == b) = false := by simpa using h
    rw [this]; simp [h]
theorem pick_bool {c : Bool} {a b : Bool} : (AV.bool (if c = true then a else b)) = AV.bool (bif c then a else b) := by cases c <;> rfl
theorem nn (i : Nat) : ((0 : Int) ≤ (i : Int)) = True := by simp
theorem ltn (i j : Nat) : ((i : Int) < (j : Int)) = (i < j) := by simp
theorem len_ne {α : Type} {l : List α} {i : Nat} (h : i < l.length) : l[i]? = some l[i] := List.getElem?_eq_getElem h
theorem getO_map {α : Type} {f : α → AV} {l : List α} {i : Nat} {K : AV → Out} : getO (l.map f) i K = okO l[i]? fun r => K (f r) := by unfold getO okO; rw [List.getElem?_map]; cases l[i]? <;> rfl
def okH {α : Type} (o : Option α) {K : α → Out} (h : Hid K) : Out := okO o K
theorem okO_hid {α : Type} {o : Option α} {K : α → Out} : okO o K = @okH α o K .mk := rfl
theorem okH_some {α : Type} {v : α} {K : α → Out} : @okH α (some v) K .mk = K v := rfl
theorem okH_none {α : Type} {K : α → Out} : @okH α none K .mk = .fail := rfl
def getH (l : List AV) (i : Nat) {K : AV → Out} (h : Hid K) : Out := getO l i K
theorem getO_hid {l : List AV} {i : Nat} {K : AV → Out} : getO l i K = @getH l i K .mk := rfl
theorem getH_nil {i : Nat} {K : AV → Out} : @getH [] i K .mk = .fail := rfl
theorem getH_zero {v : AV} {l : List AV} {K : AV → Out} : @getH (v :: l) 0 K .mk = K v := rfl
theorem getH_succ {v : AV} {l : List AV} {i : Nat} {K : AV → Out} : @getH (v :: l) (i + 1) K .mk = @getH l i K .mk := rfl
theorem getH_map {α : Type} {f : α → AV} {l : List α} {i : Nat} {K : AV → Out} : @getH (l.map f) i K .mk = @okH α l[i]? (fun r => K (f r)) .mk := getO_map
theorem okO_get {α : Type} {l : List α} {i : Nat} {K : α → Out} (h : i < l.length) : @okH α l[i]? K .mk = K l[i] := by rw [List.getElem?_eq_getElem h]; rfl
attribute [go_sem ↓] okO_hid getO_hid
attribute [push_cast] okH_some okH_none getH_nil getH_zero getH_succ getH_map
theorem bw_t {b : Bool} : bw b true = b := by cases b <;> rfl
theorem bw_f {b : Bool} : bw b false = !b := by cases b <;> rfl
theorem map_drop2 {α β : Type} {f : α → β} {l : List α} {k : Nat} : (l.map f).drop k = (l.drop k).map f := List.map_drop.symm
theorem map_take2 {α β : Type} {f : α → β} {l : List α} {k : Nat} : (l.map f).take k = (l.take k).map f := List.map_take.symm
theorem take_drop_len {α : Type} {l : List α} {k : Nat} : (l.drop k).take (l.length - k) = l.drop k := List.take_of_length_le (by simp)
theorem map_append2 {α β : Type} {f : α → β} {l r : List α} : l.map f ++ r.map f = (l ++ r).map f := List.map_append.symm
theorem tmod_b (a : Int) (n : Nat) : -(n : Int) ≤ a.tmod (n + 1) ∧ a.tmod (n + 1) ≤ n := by
  have h1 := Int.tmod_lt_of_pos a (b := (n : Int) + 1) (by omega)
  have h2 := Int.tmod_lt_of_pos (-a) (b := (n : Int) + 1) (by omega)
  rw [Int.neg_tmod] at h2
  omega
theorem take_all_append {α : Type} {l r : List α} : (l ++ r).take (l.length + r.length) = l ++ r := List.take_of_length_le (by simp)
theorem ltz {i : Nat} : ((i : Int) < 0) = False := by simp
theorem ltz1 {i : Nat} : (-((i : Int) + 1) < 0) = True := by apply eq_true; omega
theorem sub_neg1 {i : Nat} : (0 - -((i : Int) + 1)) = (i : Int) + 1 := by omega
attribute [push_cast] take_all_append ltz ltz1 sub_neg1 map_append2 map_drop2 map_take2 take_drop_len
theorem all_take_succ {α : Type} {p : α → Bool} {l : List α} {j : Nat} (h : j < l.length) : (l.take (j + 1)).all p = ((l.take j).all p && p l[j]) := by rw [List.take_add_one, List.getElem?_eq_getElem h, List.all_append]; simp [Option.toList]
theorem any_take_succ {α : Type} {p : α → Bool} {l : List α} {j : Nat} (h : j < l.length) : (l.take (j + 1)).any p = ((l.take j).any p || p l[j]) := by rw [List.take_add_one, List.getElem?_eq_getElem h, List.any_append]; simp [Option.toList]
theorem false_dec {p : Prop} [Decidable p] : (false = decide p) = ¬ p := by by_cases h : p <;> simp [h]
theorem true_dec {p : Prop} [Decidable p] : (true = decide p) = p := by by_cases h : p <;> simp [h]
theorem okE_cons {sz : Nat} {a : AV} {l : List AV} : (∀ v ∈ a :: l, okE sz v) = (okE sz a ∧ ∀ v ∈ l, okE sz v) := by simp
theorem okE_nil {sz : Nat} : (∀ v ∈ ([] : List AV), okE sz v) = True := by simp
theorem okE_agg {sz : Nat} {cs : List AV} : okE sz (.agg cs) = (cs.length = sz ∧ allC1 cs = true) := rfl
theorem okE_int {sz : Nat} {k : IntKind} {n : Int} : okE sz (.int k n) = (1 = sz) := by simp [okE, cellsOf, allC1, C1]
theorem okE_bool {sz : Nat} {n : Bool} : okE sz (.bool n) = (1 = sz) := by simp [okE, cellsOf, allC1, C1]
theorem okE_str {sz : Nat} {n : ByteArray} : okE sz (.str n) = (1 = sz) := by simp [okE, cellsOf, allC1, C1]
theorem okE_lst {sz : Nat} {f : Bool} {z : Nat} {l : List AV} : okE sz (.lst f z l) = (1 = sz) := by simp [okE, cellsOf, allC1, C1]
theorem okE_row {sz i n o l : Nat} : okE sz (.row i n o l) = (1 = sz) := by simp [okE, cellsOf, allC1, C1]
theorem okE_loc {sz i n : Nat} : okE sz (.loc i n) = (1 = sz) := by simp [okE, cellsOf, allC1, C1]
attribute [go_sem ↓] okE_cons okE_nil
attribute [push_cast] okE_cons okE_nil okE_agg okE_int okE_bool okE_str okE_lst okE_row okE_loc
theorem ite_nat_ne {α : Type} {a b : Nat} {x y : α} (h : a ≠ b) : (if a = b then x else y) = y := if_neg h
theorem take_map_len {α β : Type} {f : α → β} {l : List α} : (l.map f).take l.length = l.map f := by rw [← List.map_take, List.take_length]
theorem toNat_succ {i : Nat} : ((i : Int) + 1).toNat = i + 1 := by omega
theorem toNat_pred {i : Nat} : ((i : Int) - 1).toNat = i - 1 := by omega
attribute [push_cast] take_map_len List.range_zero ite_nat_ne toNat_succ toNat_pred okO_get bw_t bw_f beq_int bne_int beq_list Int.toNat_natCast nn ltn

/-! ### Loops -/
def subB : Mem → Mem → Prop
  | [], _ => True
  | (k, v) :: r, b => look k b = some v ∧ subB r (delB k b)
theorem subB_nil {b : Mem} : subB [] b = True := rfl
theorem subB_cons {k : Nat} {v : Blk} {r b : Mem} : subB ((k, v) :: r) b = (look k b = some v ∧ subB r (delB k b)) := rfl
attribute [push_cast] subB_nil subB_cons Blk.obj.injEq Blk.row.injEq Blk.map.injEq
theorem look_perm {k : Nat} {v : Blk} : ∀ {b : Mem}, look k b = some v → ((k, v) :: delB k b).Perm b
  | [], h => by simp [look] at h
  | (k', u) :: r, h => by
    simp only [look] at h
    by_cases hk : k' = k
    · rw [if_pos hk] at h; injection h with h; subst h hk; simp [delB]
    · rw [if_neg hk] at h
      simp only [delB, if_neg hk]
      exact (List.Perm.swap _ _ _).trans ((look_perm h).cons _)
theorem subB_perm : ∀ {b' b : Mem}, subB b' b → ∃ r, (b' ++ r).Perm b
  | [], b, _ => ⟨b, by simp⟩
  | (k, v) :: r, b, h => by
    obtain ⟨q, hq⟩ := subB_perm h.2
    exact ⟨q, by simpa using (hq.cons (k, v)).trans (look_perm h.1)⟩
theorem weak_sub {n n' m : Nat} {t t' : List (Nat × AV)} {b b' : Mem} (ht : subL t' t) (hb : subB b' b) (hn : n ≤ n') : Weak n0 ⟨t, b, n, m⟩ ⟨t', b', n', m⟩ := by
  obtain ⟨r, hr⟩ := subB_perm hb
  exact .trans (.perm (s := ⟨t, b, n, m⟩) hr) (weak_drop ht (List.sublist_append_left _ _) hn)
/-- The end of a round. -/
def LoopEnd (n0 m N0 : Nat) {σ : Type} (St : σ → Nat → List (Nat × AV) × Mem) (Inv : σ → Prop) (μ : σ → Nat) (x : σ) (s : S) : Prop := ∃ x' N, N0 ≤ N ∧ Inv x' ∧ μ x' < μ x ∧ Weak n0 s ⟨(St x' N).1, (St x' N).2, N, m⟩
def loopE (P : Program) (n0 m N0 : Nat) {σ : Type} (St : σ → Nat → List (Nat × AV) × Mem) (Inv : σ → Prop) (μ : σ → Nat) (x : σ) (r : List Item) (Q : Exit → S → Prop) : Exit → S → Prop
  | .normal, s => LoopEnd n0 m N0 St Inv μ x s
  | e, s => @Run P n0 ⟨r, Q⟩ .mk e s
section
variable {σ : Type} {St : σ → Nat → List (Nat × AV) × Mem} {Inv : σ → Prop} {μ : σ → Nat} {x : σ} {r : List Item} {Q : Exit → S → Prop} {s : S} {m N0 : Nat}
theorem loopE_normal : loopE P n0 m N0 St Inv μ x r Q .normal s = LoopEnd n0 m N0 St Inv μ x s := rfl
theorem loopE_exit {i : Nat} : loopE P n0 m N0 St Inv μ x r Q (.exit i) s = @Run P n0 ⟨r, Q⟩ .mk (.exit i) s := rfl
theorem loopE_ret : loopE P n0 m N0 St Inv μ x r Q .ret s = @Run P n0 ⟨r, Q⟩ .mk .ret s := rfl
end
attribute [push_cast] loopE_normal loopE_exit loopE_ret
theorem loop_end {σ : Type} {St : σ → Nat → List (Nat × AV) × Mem} {Inv : σ → Prop} {μ : σ → Nat} {x : σ} {n m N0 : Nat} {t : List (Nat × AV)} {b : Mem} (x' : σ) (N : Nat) (hN : N0 ≤ N) (hI : Inv x') (hm : μ x' < μ x) (ht : subL (St x' N).1 t) (hb : subB (St x' N).2 b) (hn : n ≤ N) :
    LoopEnd n0 m N0 St Inv μ x ⟨t, b, n, m⟩ := ⟨x', N, hN, hI, hm, weak_sub ht hb hn⟩
theorem loop_by {c : Code} {r : List Item} {Q : Exit → S → Prop} {n m : Nat} {t : List (Nat × AV)} {b : Mem} {σ : Type} (St : σ → Nat → List (Nat × AV) × Mem) (Inv : σ → Prop) (μ : σ → Nat) (x0 : σ) (N0 : Nat) (h0 : Inv x0) (ht : subL (St x0 N0).1 t) (hb : subB (St x0 N0).2 b) (hn : n ≤ N0)
    (step : ∀ x N, N0 ≤ N → Inv x → @Run P n0 ⟨[.code c], loopE P n0 m N0 St Inv μ x r Q⟩ .mk .normal ⟨(St x N).1, (St x N).2, N, m⟩) : @LoopR P n0 ⟨c, r, Q⟩ .mk ⟨t, b, n, m⟩ := by
  refine loop_rule (fun k s => ∃ x N, N0 ≤ N ∧ k = μ x ∧ Inv x ∧ s = ⟨(St x N).1, (St x N).2, N, m⟩) (μ x0) ⟨(St x0 N0).1, (St x0 N0).2, N0, m⟩ (weak_sub ht hb hn) ⟨x0, N0, Nat.le_refl _, rfl, h0, rfl⟩ ?_
  rintro k s ⟨x, N, hN, rfl, hI, rfl⟩
  have h := step x N hN hI
  unfold Run at h ⊢
  refine codeW_mono (fun e s hq => ?_) h
  cases e with
  | normal => obtain ⟨x', N', h0, h1, h2, h3⟩ := hq; exact ⟨μ x', h2, _, h3, x', N', h0, rfl, h1, rfl⟩
  | _ => exact hq
theorem cast0 : ((0 : Nat) : Int) = 0 := rfl
attribute [push_cast] cast0

/-- A round of a loop over a list. -/
theorem fold_take {α β : Type} {f : β → α → β} {b : β} {l : List α} {i : Nat} {a : α} (h : l[i]? = some a) : (l.take (i + 1)).foldl f b = f ((l.take i).foldl f b) a := by
  rw [List.take_add_one, h]; simp
end Go.Ev

/-
Two ways that come together again: one state for both.
-/
set_option linter.unusedVariables false
namespace Go.Ev
open Classical
noncomputable section
def merge1 (b : Bool) (a c : AV) : Option AV := if a = c then some a else match a, c with
  | .int k x, .int k' y => if k = k' then some (.int k (if b = true then x else y)) else none
  | .bool x, .bool y => some (.bool (if b = true then x else y))
  | .str x, .str y => some (.str (if b = true then x else y))
  | .row i n o l, .row i' n' o' l' => if i = i' then some (.row i (if b = true then n else n') (if b = true then o else o') (if b = true then l else l')) else none
  | .lst f z e, .lst f' z' e' => if f = f' ∧ z = z' then some (.lst f z (if b = true then e else e')) else none
  | _, _ => none
def mergeL (b : Bool) : List AV → List AV → Option (List AV)
  | [], [] => some []
  | a :: r, c :: q => (merge1 b a c).bind fun v => (mergeL b r q).map fun l => v :: l
  | _, _ => none
def mergeV (b : Bool) (a c : AV) : Option AV := if a = c then some a else match a, c with
  | .agg cs, .agg ds => (mergeL b cs ds).map .agg
  | a, c => merge1 b a c
def mergeB (b : Bool) : Blk → Blk → Option Blk
  | .obj e, .obj e' => (mergeV b e e').map .obj
  | .row z els fr, .row z' els' fr' => if z = z' ∧ fr = fr' then some (.row z (if b = true then els else els') fr) else none
  | .map ks vs, .map ks' vs' => some (.map (if b = true then ks else ks') (if b = true then vs else vs'))
  | _, _ => none
def mergeT (b : Bool) (t1 t2 : List (Nat × AV)) : List Nat → List (Nat × AV)
  | [] => []
  | k :: r => (k, ((look k t1).bind fun a => (look k t2).bind fun c => mergeV b a c).getD .undef) :: mergeT b t1 t2 r
def consM (id : Nat) (o : Option Blk) (m : Mem) : Mem := match o with
  | some x => (id, x) :: m
  | none => m
def mergeM (b : Bool) (b1 b2 : Mem) : List Nat → Mem
  | [] => []
  | id :: r => consM id ((look id b1).bind fun x => (look id b2).bind fun y => mergeB b x y) (mergeM b b1 b2 r)
end

theorem merge1_ok {b : Bool} {a c v : AV} (h : merge1 b a c = some v) : (b = true → v = a) ∧ (b = false → v = c) := by
  unfold merge1 at h
  split at h
  · rename_i he; injection h with h; subst h he; exact ⟨fun _ => rfl, fun _ => rfl⟩
  · split at h
    · split at h
      · rename_i hk; subst hk; injection h with h; subst h; exact ⟨fun e => by simp [e], fun e => by simp [e]⟩
      · cases h
    · injection h with h; subst h; exact ⟨fun e => by simp [e], fun e => by simp [e]⟩
    · injection h with h; subst h; exact ⟨fun e => by simp [e], fun e => by simp [e]⟩
    · split at h
      · rename_i hk; subst hk; injection h with h; subst h; exact ⟨fun e => by simp [e], fun e => by simp [e]⟩
      · cases h
    · split at h
      · rename_i hk; obtain ⟨rfl, rfl⟩ := hk; injection h with h; subst h; exact ⟨fun e => by simp [e], fun e => by simp [e]⟩
      · cases h
    · cases h
theorem mergeL_ok {b : Bool} : ∀ {aas cs vs : List AV}, mergeL b aas cs = some vs → (b = true → vs = aas) ∧ (b = false → vs = cs)
  | [], [], vs, h => by injection h with h; subst h; exact ⟨fun _ => rfl, fun _ => rfl⟩
  | a :: r, c :: q, vs, h => by
    simp only [mergeL, Option.bind_eq_some_iff, Option.map_eq_some_iff] at h
    obtain ⟨v, h1, l, h2, rfl⟩ := h
    have i1 := merge1_ok h1
    have i2 := mergeL_ok h2
    exact ⟨fun e => by rw [i1.1 e, i2.1 e], fun e => by rw [i1.2 e, i2.2 e]⟩
  | [], _ :: _, _, h => by cases h
  | _ :: _, [], _, h => by cases h
theorem mergeV_ok {b : Bool} {a c v : AV} (h : mergeV b a c = some v) : (b = true → v = a) ∧ (b = false → v = c) := by
  unfold mergeV at h
  split at h
  · rename_i he; injection h with h; subst h he; exact ⟨fun _ => rfl, fun _ => rfl⟩
  · split at h
    · simp only [Option.map_eq_some_iff] at h
      obtain ⟨l, h, rfl⟩ := h
      have i := mergeL_ok h
      exact ⟨fun e => by rw [i.1 e], fun e => by rw [i.2 e]⟩
    · exact merge1_ok h
theorem mergeB_ok {b : Bool} {a c v : Blk} (h : mergeB b a c = some v) : (b = true → v = a) ∧ (b = false → v = c) := by
  unfold mergeB at h
  split at h
  · simp only [Option.map_eq_some_iff] at h
    obtain ⟨l, h, rfl⟩ := h
    have i := mergeV_ok h
    exact ⟨fun e => by rw [i.1 e], fun e => by rw [i.2 e]⟩
  · split at h
    · rename_i hk; obtain ⟨rfl, rfl⟩ := hk; injection h with h; subst h; exact ⟨fun e => by simp [e], fun e => by simp [e]⟩
    · cases h
  · injection h with h; subst h; exact ⟨fun e => by simp [e], fun e => by simp [e]⟩
  · cases h

/-- The same but for some slots that were written. -/
def strip (ks : List Nat) (t1 t : List (Nat × AV)) : Prop := ∃ q, t1 = q ++ t ∧ ∀ x ∈ q, x.1 ∈ ks
theorem strip_refl {ks : List Nat} {t : List (Nat × AV)} : strip ks t t := ⟨[], rfl, by simp⟩
theorem strip_cons {ks : List Nat} {k : Nat} {v : AV} {r t : List (Nat × AV)} (hk : ks.contains k = true) (h : strip ks r t) : strip ks ((k, v) :: r) t := by
  obtain ⟨q, rfl, hq⟩ := h
  exact ⟨(k, v) :: q, rfl, fun x hx => by
    cases hx with
    | head => simpa using hk
    | tail _ hx => exact hq x hx⟩
theorem strip_look {ks : List Nat} {t1 t : List (Nat × AV)} (h : strip ks t1 t) {k : Nat} (hk : k ∉ ks) : look k t1 = look k t := by
  obtain ⟨q, rfl, hq⟩ := h
  induction q with
  | nil => rfl
  | cons x q ih =>
    obtain ⟨j, v⟩ := x
    have : j ≠ k := fun e => hk (e ▸ hq (j, v) (by simp))
    simp only [List.cons_append, look, if_neg this]
    exact ih fun x hx => hq x (by simp [hx])
theorem look_mergeT {b : Bool} {t1 t2 t : List (Nat × AV)} {k : Nat} {v : AV} : ∀ {ks : List Nat}, look k (mergeT b t1 t2 ks ++ t) = some v →
    (k ∈ ks ∧ v = ((look k t1).bind fun a => (look k t2).bind fun c => mergeV b a c).getD .undef) ∨ (k ∉ ks ∧ look k t = some v)
  | [], h => .inr ⟨by simp, h⟩
  | j :: r, h => by
    simp only [mergeT, List.cons_append, look] at h
    split at h
    · rename_i hj; subst hj; injection h with h; exact .inl ⟨by simp, h.symm⟩
    · rename_i hj
      rcases look_mergeT h with ⟨h1, h2⟩ | ⟨h1, h2⟩
      · exact .inl ⟨by simp [h1], h2⟩
      · exact .inr ⟨by simp [h1, Ne.symm hj], h2⟩
theorem merged {b : Bool} {t1 t2 : List (Nat × AV)} {k : Nat} {v : AV} (h : v = ((look k t1).bind fun a => (look k t2).bind fun c => mergeV b a c).getD .undef) : v = .undef ∨ (b = true → look k t1 = some v) ∧ (b = false → look k t2 = some v) := by
  cases h1 : look k t1 with
  | none => left; simpa [h1] using h
  | some a =>
    cases h2 : look k t2 with
    | none => left; simpa [h1, h2] using h
    | some c =>
      simp only [h1, h2, Option.bind_some] at h
      cases h3 : mergeV b a c with
      | none => left; simpa [h3] using h
      | some u =>
        rw [h3] at h
        simp only [Option.getD_some] at h
        subst h
        have i := mergeV_ok h3
        exact .inr ⟨fun e => by rw [i.1 e], fun e => by rw [i.2 e]⟩
def apart1 (k : Nat) : List Nat → Prop
  | [] => True
  | j :: r => j ≠ k ∧ apart1 k r
theorem apart1_mem {k : Nat} : ∀ {r : List Nat}, apart1 k r → ∀ j ∈ r, j ≠ k
  | j :: r, h, i, hi => by
    cases hi with
    | head => exact h.1
    | tail _ hi => exact apart1_mem h.2 i hi
def apartL : List Nat → Prop
  | [] => True
  | k :: r => apart1 k r ∧ apartL r
theorem apart_nil : apartL [] = True := rfl
theorem apart_cons {k : Nat} {r : List Nat} : apartL (k :: r) = (apart1 k r ∧ apartL r) := rfl
theorem apart1_nil {k : Nat} : apart1 k [] = True := rfl
theorem apart1_cons {k j : Nat} {r : List Nat} : apart1 k (j :: r) = (¬ j = k ∧ apart1 k r) := rfl
theorem look_delB {k j : Nat} (h : j ≠ k) : ∀ {b : Mem}, look j (delB k b) = look j b
  | [] => rfl
  | (i, u) :: r => by
    simp only [delB, look]
    by_cases hi : i = k
    · rw [if_pos hi, if_neg (by omega)]
    · rw [if_neg hi]; simp only [look]; rw [look_delB h]
theorem subB_del {k : Nat} : ∀ {m b : Mem}, (∀ x ∈ m, x.1 ≠ k) → subB m b → subB m (delB k b)
  | [], _, _, _ => trivial
  | (j, v) :: r, b, hm, h => by
    have hj : j ≠ k := hm (j, v) (by simp)
    refine ⟨by rw [look_delB hj]; exact h.1, ?_⟩
    have hc : delB j (delB k b) = delB k (delB j b) := by
      clear h hm
      induction b with
      | nil => rfl
      | cons x b ih =>
        obtain ⟨i, u⟩ := x
        simp only [delB]
        by_cases h1 : i = k
        · subst h1
          rw [if_pos rfl, if_neg (Ne.symm hj)]; simp only [delB, if_true]
        · rw [if_neg h1]
          by_cases h2 : i = j
          · subst h2; simp only [delB, if_true]
          · simp only [delB, if_neg h2, if_neg h1, ih]
    rw [hc]
    exact subB_del (fun x hx => hm x (by simp [hx])) h.2
theorem mergeM_mem {b : Bool} {b1 b2 : Mem} : ∀ {ids : List Nat}, ∀ x ∈ mergeM b b1 b2 ids, x.1 ∈ ids
  | [], x, h => by simp [mergeM] at h
  | id :: r, x, h => by
    simp only [mergeM, consM] at h
    split at h
    · cases h with
      | head => simp
      | tail _ h => simp [mergeM_mem x h]
    · simp [mergeM_mem x h]
theorem mergeM_sub {b : Bool} {b1 b2 b0 : Mem} (hb : (b = true → b0 = b1) ∧ (b = false → b0 = b2)) : ∀ {ids : List Nat}, apartL ids → subB (mergeM b b1 b2 ids) b0
  | [], _ => trivial
  | id :: r, h => by
    simp only [mergeM, consM]
    split
    · rename_i v hv
      simp only [Option.bind_eq_some_iff] at hv
      obtain ⟨x, hx, y, hy, hv⟩ := hv
      have i := mergeB_ok hv
      refine ⟨?_, subB_del (fun z hz => apart1_mem h.1 z.1 (mergeM_mem z hz)) (mergeM_sub hb h.2)⟩
      cases b with
      | true => rw [hb.1 rfl, i.1 rfl]; exact hx
      | false => rw [hb.2 rfl, i.2 rfl]; exact hy
    · exact mergeM_sub hb h.2

section
variable {P : Program} {n0 : Nat} {r : List Item} {Q : Exit → S → Prop}
theorem weak_merge {b : Bool} {ks : List Nat} {t t1 t2 t0 : List (Nat × AV)} {b1 b2 b0 : Mem} {ids : List Nat} {n n' m : Nat} (ht : (b = true → t0 = t1) ∧ (b = false → t0 = t2)) (hb : (b = true → b0 = b1) ∧ (b = false → b0 = b2))
    (h1 : strip ks t1 t) (h2 : strip ks t2 t) (hi : apartL ids) (hn : n ≤ n') : Weak n0 ⟨t0, b0, n, m⟩ ⟨mergeT b t1 t2 ks ++ t, mergeM b b1 b2 ids, n', m⟩ := by
  obtain ⟨q, hq⟩ := subB_perm (mergeM_sub hb hi)
  refine .trans (.perm (s := ⟨t0, b0, n, m⟩) hq) (.drop rfl (fun k v hk => ?_) (List.sublist_append_left _ _) hn)
  show v = .undef ∨ look k t0 = some v
  rcases look_mergeT hk with ⟨hm, hv⟩ | ⟨hm, hv⟩
  · rcases merged hv with h | ⟨h3, h4⟩
    · exact .inl h
    · right
      cases b with
      | true => rw [ht.1 rfl]; exact h3 rfl
      | false => rw [ht.2 rfl]; exact h4 rfl
  · right
    cases b with
    | true => rw [ht.1 rfl, strip_look h1 hm]; exact hv
    | false => rw [ht.2 rfl, strip_look h2 hm]; exact hv
/-- What is said of a way's end. -/
def endQ (s1 : S) : Exit → S → Prop := fun e s => e = .normal ∧ s = s1
theorem endQ_normal {s s1 : S} : endQ s1 .normal s = (s = s1) := by simp [endQ]
theorem cond_merge0 {x y : Code} {b : Bool} {t t1 t2 : List (Nat × AV)} {b0 b1 b2 : Mem} {n n1 n2 m : Nat} (ks : List Nat)
    (h1 : b = true → @Run P n0 ⟨[.code x], endQ ⟨t1, b1, n1, m⟩⟩ .mk .normal ⟨t, b0, n, m⟩) (h2 : b = false → @Run P n0 ⟨[.code y], endQ ⟨t2, b2, n2, m⟩⟩ .mk .normal ⟨t, b0, n, m⟩)
    (hs1 : strip ks t1 t) (hs2 : strip ks t2 t) (hi : apartL (b0.map (·.1)))
    (hk : @Run P n0 ⟨r, Q⟩ .mk .normal ⟨mergeT b t1 t2 ks ++ t, mergeM b b1 b2 (b0.map (·.1)), n1 + n2, m⟩) : @Branch P n0 ⟨x, y, r, Q⟩ .mk ⟨t, b0, n, m⟩ (some b) := by
  refine ⟨b, rfl, .inr ⟨_, fun hb => ?_, fun hb => ?_, hk⟩⟩
  · have := h1 hb
    rw [run_one] at this ⊢
    refine codeW_mono (fun e s hq => ?_) this
    obtain ⟨rfl, rfl⟩ := hq
    exact ⟨rfl, weak_merge ⟨fun _ => rfl, fun e => (by rw [hb] at e; cases e)⟩ ⟨fun _ => rfl, fun e => (by rw [hb] at e; cases e)⟩ hs1 hs2 hi (by omega)⟩
  · have := h2 hb
    rw [run_one] at this ⊢
    refine codeW_mono (fun e s hq => ?_) this
    obtain ⟨rfl, rfl⟩ := hq
    exact ⟨rfl, weak_merge ⟨fun e => (by rw [hb] at e; cases e), fun _ => rfl⟩ ⟨fun e => (by rw [hb] at e; cases e), fun _ => rfl⟩ hs1 hs2 hi (by omega)⟩
end

section
variable {P : Program} {n0 : Nat} {r : List Item} {Q : Exit → S → Prop}
/-- The slots that code writes. -/
def wrO : List Oper → List Nat
  | [] => []
  | o :: r => match o.dst with
    | some d => d :: wrO r
    | none => wrO r
def wr : Code → List Nat
  | .region _ ops _ => wrO ops.toList
  | .seq a b => wr a ++ wr b
  | .cond _ a b => wr a ++ wr b
  | .block _ c => wr c
  | .loop c => wr c
  | _ => []
def wrs (x y : Code) : List Nat := wr x ++ wr y
theorem toList_lit {α : Type} {l : List α} : (List.toArray l).toList = l := by simp
theorem cond_merge {x y : Code} {b : Bool} {t t1 t2 : List (Nat × AV)} {b0 b1 b2 : Mem} {n n1 n2 m : Nat} {ks : List Nat}
    (h1 : b = true → @Run P n0 ⟨[.code x], endQ ⟨t1, b1, n1, m⟩⟩ .mk .normal ⟨t, b0, n, m⟩) (h2 : b = false → @Run P n0 ⟨[.code y], endQ ⟨t2, b2, n2, m⟩⟩ .mk .normal ⟨t, b0, n, m⟩)
    (hw : wrs x y = ks) (hs1 : strip ks t1 t) (hs2 : strip ks t2 t) (hi : apartL (b0.map (·.1)))
    (hk : @Run P n0 ⟨r, Q⟩ .mk .normal ⟨mergeT b t1 t2 ks ++ t, mergeM b b1 b2 (b0.map (·.1)), n1 + n2, m⟩) : @Branch P n0 ⟨x, y, r, Q⟩ .mk ⟨t, b0, n, m⟩ (some b) :=
  cond_merge0 ks h1 h2 hs1 hs2 hi hk
end

theorem merge1_same {b : Bool} {a : AV} : merge1 b a a = some a := by simp [merge1]
theorem mergeV_same {b : Bool} {a : AV} : mergeV b a a = some a := by simp [mergeV]
theorem mergeV_int {b : Bool} {k : IntKind} {x y : Int} : mergeV b (.int k x) (.int k y) = some (.int k (if b = true then x else y)) := by
  unfold mergeV; split
  · rename_i h; injection h with _ h; subst h; simp
  · simp only [merge1]; split
    · rename_i h; injection h with _ h; subst h; simp
    · simp
theorem mergeV_bool {b x y : Bool} : mergeV b (.bool x) (.bool y) = some (.bool (if b = true then x else y)) := by
  unfold mergeV; split
  · rename_i h; injection h with h; subst h; simp
  · simp only [merge1]; split
    · rename_i h; injection h with h; subst h; simp
    · rfl
theorem mergeV_str {b : Bool} {x y : List UInt8} : mergeV b (.str (ofL x)) (.str (ofL y)) = some (.str (ofL (if b = true then x else y))) := by
  unfold mergeV; split
  · rename_i h; injection h with h; rw [ofL_inj] at h; subst h; simp
  · simp only [merge1]; split
    · rename_i h; injection h with h; rw [ofL_inj] at h; subst h; simp
    · cases b <;> rfl
theorem merge1_int {b : Bool} {k : IntKind} {x y : Int} : merge1 b (.int k x) (.int k y) = some (.int k (if b = true then x else y)) := by
  simp only [merge1]; split
  · rename_i h; injection h with _ h; subst h; simp
  · simp
theorem merge1_bool {b x y : Bool} : merge1 b (.bool x) (.bool y) = some (.bool (if b = true then x else y)) := by
  simp only [merge1]; split
  · rename_i h; injection h with h; subst h; simp
  · rfl
theorem merge1_str {b : Bool} {x y : List UInt8} : merge1 b (.str (ofL x)) (.str (ofL y)) = some (.str (ofL (if b = true then x else y))) := by
  simp only [merge1]; split
  · rename_i h; injection h with h; rw [ofL_inj] at h; subst h; simp
  · cases b <;> rfl
theorem merge1_lst {b : Bool} {f : Bool} {z : Nat} {x y : List AV} : merge1 b (.lst f z x) (.lst f z y) = some (.lst f z (if b = true then x else y)) := by
  simp only [merge1]; split
  · rename_i h; injection h with _ _ h; subst h; simp
  · simp
theorem mergeV_lst {b : Bool} {f : Bool} {z : Nat} {x y : List AV} : mergeV b (.lst f z x) (.lst f z y) = some (.lst f z (if b = true then x else y)) := by
  unfold mergeV; split
  · rename_i h; injection h with _ _ h; subst h; simp
  · exact merge1_lst
theorem mergeV_row {b : Bool} {i n o l n' o' l' : Nat} : mergeV b (.row i n o l) (.row i n' o' l') = some (.row i (if b = true then n else n') (if b = true then o else o') (if b = true then l else l')) := by
  have h1 : merge1 b (.row i n o l) (.row i n' o' l') = some (.row i (if b = true then n else n') (if b = true then o else o') (if b = true then l else l')) := by
    simp only [merge1]; split
    · rename_i h; injection h with _ h1 h2 h3; subst h1 h2 h3; simp
    · simp
  unfold mergeV; split
  · rename_i h; injection h with _ h1 h2 h3; subst h1 h2 h3; simp
  · exact h1
theorem mergeV_agg {b : Bool} {cs ds : List AV} : mergeV b (.agg cs) (.agg ds) = (if cs = ds then some (.agg cs) else (mergeL b cs ds).map .agg) := by
  unfold mergeV
  by_cases h : cs = ds
  · subst h; simp
  · rw [if_neg (by intro e; injection e with e; exact h e), if_neg h]
theorem mergeL_same {b : Bool} : ∀ {cs : List AV}, mergeL b cs cs = some cs
  | [] => rfl
  | c :: cs => by simp [mergeL, merge1_same, mergeL_same]
theorem mergeV_agg' {b : Bool} {cs ds : List AV} : mergeV b (.agg cs) (.agg ds) = (mergeL b cs ds).map .agg := by
  rw [mergeV_agg]; split
  · rename_i h; subst h; rw [mergeL_same]; rfl
  · rfl
theorem mergeL_cons {b : Bool} {a c : AV} {r q : List AV} : mergeL b (a :: r) (c :: q) = (merge1 b a c).bind fun v => (mergeL b r q).map fun l => v :: l := rfl
theorem mergeL_nil {b : Bool} : mergeL b [] [] = some [] := rfl
theorem mergeB_same {b : Bool} {x : Blk} : mergeB b x x = some x := by cases x <;> simp [mergeB, mergeV_same]
theorem mergeB_obj {b : Bool} {e e' : AV} : mergeB b (.obj e) (.obj e') = (mergeV b e e').map .obj := rfl
theorem mergeB_row {b : Bool} {z : Nat} {x y : List AV} {fr : Bool} : mergeB b (.row z x fr) (.row z y fr) = some (.row z (if b = true then x else y) fr) := by simp [mergeB]
theorem mergeB_map {b : Bool} {k v k' v' : List AV} : mergeB b (.map k v) (.map k' v') = some (.map (if b = true then k else k') (if b = true then v else v')) := rfl
theorem mergeT_nil {b : Bool} {t1 t2 : List (Nat × AV)} : mergeT b t1 t2 [] = [] := rfl
theorem mergeT_cons {b : Bool} {t1 t2 : List (Nat × AV)} {k : Nat} {r : List Nat} : mergeT b t1 t2 (k :: r) = (k, ((look k t1).bind fun a => (look k t2).bind fun c => mergeV b a c).getD .undef) :: mergeT b t1 t2 r := rfl
theorem mergeM_nil {b : Bool} {t1 t2 : Mem} : mergeM b t1 t2 [] = [] := rfl
theorem mergeM_cons {b : Bool} {b1 b2 : Mem} {id : Nat} {r : List Nat} : mergeM b b1 b2 (id :: r) = consM id ((look id b1).bind fun x => (look id b2).bind fun y => mergeB b x y) (mergeM b b1 b2 r) := rfl
theorem consM_some {id : Nat} {x : Blk} {m : Mem} : consM id (some x) m = (id, x) :: m := rfl
theorem consM_none {id : Nat} {m : Mem} : consM id none m = m := rfl
attribute [push_cast] merge1_int merge1_bool merge1_str merge1_lst mergeV_int mergeV_bool mergeV_str mergeV_lst mergeV_row mergeV_agg' mergeL_cons mergeL_nil mergeB_obj mergeB_row mergeB_map mergeT_nil mergeT_cons mergeM_nil mergeM_cons consM_some consM_none endQ_normal apart_nil apart_cons apart1_nil apart1_cons
attribute [push_cast high] merge1_same mergeV_same mergeB_same
end Go.Ev

/-
Plans of regions that draw, printed by a tool of my own.
-/
namespace Go.Ev
deriving instance DecidableEq for Pl.PStep
def pl9_0 : List Pl.PStep := [.still 0 [12], .act [(0, [12])] 1 [54], .still 2 [55], .still 3 [56], .still 4 [11, 57], .still 5 [58, 57], .still 6 [59, 57], .still 10 [11, 60], .still 11 [64, 60], .still 9 [7, 60], .still 12 [63, 65, 60], .still 13 [66, 60], .still 7 [12, 60], .still 8 [61, 60], .act [(13, [66, 60]), (12, [63, 65, 60]), (11, [64, 60]), (10, [11, 60]), (9, [7, 60]), (8, [61, 60]), (7, [12, 60]), (6, [59, 57]), (5, [58, 57]), (4, [11, 57]), (3, [56]), (2, [55])] 14 [67, 60], .still 15 [62, 68, 60], .still 16 [60, 69, 57], .still 17 [57, 70], .fin [(17, [57, 70]), (16, [60, 69, 57]), (15, [62, 68, 60]), (8, [61, 60]), (7, [12, 60])]]
def pl22_0 : List Pl.PStep := [.still 0 [0], .still 1 [5], .still 2 [6], .still 5 [1, 7], .still 6 [10, 7], .still 7 [11, 7], .still 8 [12, 7], .still 9 [13, 7], .still 3 [0, 7], .act [(9, [13, 7]), (8, [12, 7]), (7, [11, 7]), (6, [10, 7]), (5, [1, 7]), (3, [0, 7]), (2, [6]), (1, [5]), (0, [0])] 4 [8, 7], .still 10 [9, 14, 7], .still 11 [7, 15], .still 12 [16], .still 15 [1, 17], .still 16 [20, 17], .still 17 [21, 17], .still 18 [22, 17], .still 13 [0, 17], .act [(18, [22, 17]), (17, [21, 17]), (16, [20, 17]), (15, [1, 17]), (13, [0, 17]), (12, [16]), (11, [7, 15]), (10, [9, 14, 7]), (9, [13, 7]), (8, [12, 7]), (7, [11, 7]), (6, [10, 7]), (5, [1, 7])] 14 [18, 17], .still 19 [19, 23, 17], .still 20 [17, 24], .still 21 [25], .still 24 [1, 26], .still 22 [0, 26], .act [(24, [1, 26]), (22, [0, 26]), (21, [25]), (20, [17, 24]), (19, [19, 23, 17]), (18, [22, 17]), (17, [21, 17]), (16, [20, 17]), (15, [1, 17])] 23 [27, 26], .act [(24, [1, 26])] 25 [29, 26], .act [] 26 [28, 30, 26], .still 27 [26, 31], .act [(27, [26, 31])] 28 [32], .fin []]
def pl23_0 : List Pl.PStep := [.still 4 [0], .still 5 [9], .still 6 [10], .still 7 [11], .still 0 [0], .still 1 [5], .still 2 [6], .still 3 [7], .act [(7, [11]), (6, [10]), (5, [9]), (4, [0]), (3, [7]), (2, [6]), (1, [5]), (0, [0])] 8 [12], .still 9 [8, 13], .act [(9, [8, 13]), (3, [7]), (2, [6]), (1, [5]), (0, [0])] 10 [14], .act [] 11 [15], .fin []]
def pl24_0 : List Pl.PStep := [.still 5 [0], .still 6 [15], .still 7 [16], .still 8 [17], .still 1 [3], .still 2 [11], .still 3 [12], .still 4 [13], .still 0 [3], .act [(8, [17]), (7, [16]), (6, [15]), (5, [0]), (4, [13]), (3, [12]), (2, [11]), (1, [3]), (0, [3])] 9 [14, 18], .still 10 [10], .still 11 [20], .act [(11, [20]), (10, [10]), (0, [3])] 12 [21, 19], .fin []]
def pl25_0 : List Pl.PStep := [.still 13 [5], .still 14 [104], .still 11 [5], .still 12 [102], .still 9 [5], .still 10 [100], .still 8 [1], .still 5 [5], .still 6 [96], .still 3 [5], .still 4 [94], .still 1 [5], .still 2 [92], .still 0 [0], .act [(14, [104]), (13, [5]), (12, [102]), (11, [5]), (10, [100]), (9, [5]), (8, [1]), (6, [96]), (5, [5]), (4, [94]), (3, [5]), (2, [92]), (1, [5]), (0, [0])] 7 [91, 93, 95, 97], .act [(14, [104]), (13, [5]), (12, [102]), (11, [5]), (10, [100]), (9, [5]), (8, [1])] 15 [99, 101, 103, 105], .act [] 16 [98, 106], .act [] 17 [107], .fin []]
def pl28_0 : List Pl.PStep := [.still 9 [], .still 5 [1], .still 4 [0], .still 0 [0], .still 1 [14], .still 2 [15], .still 3 [16], .act [(9, []), (5, [1]), (4, [0]), (3, [16]), (2, [15]), (1, [14]), (0, [0])] 6 [18, 19], .still 7 [17, 20], .still 8 [21], .fin [(9, []), (8, [21]), (7, [17, 20]), (3, [16]), (2, [15]), (1, [14]), (0, [0])]]
def pl30_0 : List Pl.PStep := [.still 6 [5], .still 5 [0], .still 7 [21, 22], .still 8 [23], .still 9 [24], .still 10 [25], .still 1 [5], .still 0 [0], .still 2 [16, 17], .still 3 [18], .still 4 [19], .still 11 [20, 26], .act [(11, [20, 26]), (10, [25]), (9, [24]), (8, [23]), (7, [21, 22]), (6, [5]), (5, [0]), (4, [19]), (3, [18]), (2, [16, 17]), (1, [5]), (0, [0])] 12 [], .act [(11, [20, 26]), (10, [25]), (9, [24]), (8, [23]), (7, [21, 22]), (6, [5]), (5, [0]), (4, [19]), (3, [18]), (2, [16, 17]), (1, [5]), (0, [0])] 13 [6, 27], .fin []]
def pl30_1 : List Pl.PStep := [.still 3 [7], .still 2 [0], .still 4 [61, 62], .still 5 [63], .still 6 [64], .still 0 [6], .still 1 [59], .act [(6, [64]), (5, [63]), (4, [61, 62]), (3, [7]), (2, [0]), (1, [59]), (0, [6])] 7 [65], .act [(1, [59]), (0, [6])] 8 [60, 66], .still 9 [6], .act [(9, [6])] 10 [68, 67], .fin []]
def pl33_0 : List Pl.PStep := [.still 2 [1], .still 0 [1], .still 1 [6], .act [(2, [1]), (1, [6]), (0, [1])] 3 [8], .still 4 [7, 9], .act [(4, [7, 9]), (1, [6]), (0, [1])] 5 [10], .fin []]
def pl38_0 : List Pl.PStep := [.still 6 [3], .still 5 [4], .still 1 [0], .still 2 [47], .still 3 [48], .still 4 [49], .still 0 [0], .act [(6, [3]), (5, [4]), (4, [49]), (3, [48]), (2, [47]), (1, [0]), (0, [0])] 7 [52], .act [(5, [4]), (4, [49]), (3, [48]), (2, [47]), (1, [0]), (0, [0])] 8 [50, 51, 53], .still 9 [46], .still 10 [55], .act [(10, [55]), (9, [46]), (0, [0])] 11 [56, 54], .fin []]
def pl43_0 : List Pl.PStep := [.still 0 [1], .act [(0, [1])] 1 [10], .still 2 [11], .still 3 [12], .still 4 [1, 13], .still 5 [14, 13], .still 6 [15, 13], .still 7 [16, 13], .still 12 [0, 17], .still 13 [22, 17], .still 14 [23, 17], .still 15 [24, 17], .still 8 [1, 17], .still 9 [18, 17], .still 10 [19, 17], .still 11 [20, 17], .still 16 [21, 25, 17], .still 17 [26, 17], .still 19 [1, 27], .still 20 [29, 27], .still 21 [30, 27], .still 18 [1, 27], .still 22 [28, 31, 27], .still 23 [32, 27], .still 24 [33, 27], .still 25 [34, 27], .still 26 [27, 35, 17], .still 27 [17, 36, 13], .still 28 [13, 37], .fin [(28, [13, 37]), (27, [17, 36, 13]), (26, [27, 35, 17]), (25, [34, 27]), (24, [33, 27]), (23, [32, 27]), (22, [28, 31, 27]), (21, [30, 27]), (20, [29, 27]), (19, [1, 27]), (18, [1, 27]), (17, [26, 17]), (16, [21, 25, 17]), (15, [24, 17]), (14, [23, 17]), (13, [22, 17]), (12, [0, 17]), (11, [20, 17]), (10, [19, 17]), (9, [18, 17]), (8, [1, 17]), (7, [16, 13]), (6, [15, 13]), (5, [14, 13]), (4, [1, 13]), (3, [12]), (2, [11])]]
def pl50_0 : List Pl.PStep := [.still 2 [1], .still 3 [53], .still 4 [54], .still 5 [55], .still 0 [1], .act [(5, [55]), (4, [54]), (3, [53]), (2, [1]), (0, [1])] 1 [51], .still 6 [52, 56], .still 7 [57], .still 8 [1, 58], .act [(8, [1, 58]), (7, [57]), (6, [52, 56]), (5, [55]), (4, [54]), (3, [53]), (2, [1])] 9 [59, 58], .still 10 [60, 58], .still 11 [1, 61], .still 12 [62, 61], .still 13 [63, 61], .still 14 [61, 64, 58], .still 15 [58, 65], .fin [(15, [58, 65]), (14, [61, 64, 58]), (13, [63, 61]), (12, [62, 61]), (11, [1, 61]), (10, [60, 58])]]
def pl50_1 : List Pl.PStep := [.still 2 [1], .still 0 [1], .still 1 [102], .act [(2, [1]), (1, [102]), (0, [1])] 3 [104], .still 4 [103, 105], .still 5 [106], .still 6 [107], .fin [(6, [107]), (5, [106]), (4, [103, 105]), (1, [102]), (0, [1])]]
def pl68_0 : List Pl.PStep := [.still 9 [2], .still 8 [0], .still 10 [22, 23], .still 11 [24], .still 5 [3], .still 4 [0], .still 6 [18, 19], .still 7 [20], .still 3 [3], .still 2 [0], .still 1 [2], .still 0 [0], .still 12 [14, 15], .act [(12, [14, 15]), (11, [24]), (10, [22, 23]), (9, [2]), (8, [0]), (7, [20]), (6, [18, 19]), (5, [3]), (4, [0]), (3, [3]), (2, [0]), (1, [2]), (0, [0])] 13 [26, 21], .still 14 [16, 17], .act [(14, [16, 17]), (3, [3]), (2, [0])] 15 [27, 25], .fin []]
attribute [push_cast] pl9_0 pl22_0 pl23_0 pl24_0 pl25_0 pl28_0 pl30_0 pl30_1 pl33_0 pl38_0 pl43_0 pl50_0 pl50_1 pl68_0
end Go.Ev

/-
Loops whose invariant speaks of the next number.
-/
set_option linter.unusedVariables false
namespace Go.Ev
variable {P : Program} {n0 : Nat}
/-- The end of a round. -/
def LoopEndN (n0 m N0 : Nat) {σ : Type} (St : σ → Nat → List (Nat × AV) × Mem) (Inv : σ → Nat → Prop) (μ : σ → Nat) (x : σ) (s : S) : Prop := ∃ x' N, N0 ≤ N ∧ Inv x' N ∧ μ x' < μ x ∧ Weak n0 s ⟨(St x' N).1, (St x' N).2, N, m⟩
def loopEN (P : Program) (n0 m N0 : Nat) {σ : Type} (St : σ → Nat → List (Nat × AV) × Mem) (Inv : σ → Nat → Prop) (μ : σ → Nat) (x : σ) (r : List Item) (Q : Exit → S → Prop) : Exit → S → Prop
  | .normal, s => LoopEndN n0 m N0 St Inv μ x s
  | e, s => @Run P n0 ⟨r, Q⟩ .mk e s
section
variable {σ : Type} {St : σ → Nat → List (Nat × AV) × Mem} {Inv : σ → Nat → Prop} {μ : σ → Nat} {x : σ} {r : List Item} {Q : Exit → S → Prop} {s : S} {m N0 : Nat}
theorem loopEN_normal : loopEN P n0 m N0 St Inv μ x r Q .normal s = LoopEndN n0 m N0 St Inv μ x s := rfl
theorem loopEN_exit {i : Nat} : loopEN P n0 m N0 St Inv μ x r Q (.exit i) s = @Run P n0 ⟨r, Q⟩ .mk (.exit i) s := rfl
theorem loopEN_ret : loopEN P n0 m N0 St Inv μ x r Q .ret s = @Run P n0 ⟨r, Q⟩ .mk .ret s := rfl
end
attribute [push_cast] loopEN_normal loopEN_exit loopEN_ret
theorem loop_endN {σ : Type} {St : σ → Nat → List (Nat × AV) × Mem} {Inv : σ → Nat → Prop} {μ : σ → Nat} {x : σ} {n m N0 : Nat} {t : List (Nat × AV)} {b : Mem} (x' : σ) (N : Nat) (hN : N0 ≤ N) (hI : Inv x' N) (hm : μ x' < μ x) (ht : subL (St x' N).1 t) (hb : subB (St x' N).2 b) (hn : n ≤ N) :
    LoopEndN n0 m N0 St Inv μ x ⟨t, b, n, m⟩ := ⟨x', N, hN, hI, hm, weak_sub ht hb hn⟩
theorem loop_byN {c : Code} {r : List Item} {Q : Exit → S → Prop} {n m : Nat} {t : List (Nat × AV)} {b : Mem} {σ : Type} (St : σ → Nat → List (Nat × AV) × Mem) (Inv : σ → Nat → Prop) (μ : σ → Nat) (x0 : σ) (N0 : Nat) (h0 : Inv x0 N0) (ht : subL (St x0 N0).1 t) (hb : subB (St x0 N0).2 b) (hn : n ≤ N0)
    (step : ∀ x N, N0 ≤ N → Inv x N → @Run P n0 ⟨[.code c], loopEN P n0 m N0 St Inv μ x r Q⟩ .mk .normal ⟨(St x N).1, (St x N).2, N, m⟩) : @LoopR P n0 ⟨c, r, Q⟩ .mk ⟨t, b, n, m⟩ := by
  refine loop_rule (fun k s => ∃ x N, N0 ≤ N ∧ k = μ x ∧ Inv x N ∧ s = ⟨(St x N).1, (St x N).2, N, m⟩) (μ x0) ⟨(St x0 N0).1, (St x0 N0).2, N0, m⟩ (weak_sub ht hb hn) ⟨x0, N0, Nat.le_refl _, rfl, h0, rfl⟩ ?_
  rintro k s ⟨x, N, hN, rfl, hI, rfl⟩
  have h := step x N hN hI
  unfold Run at h ⊢
  refine codeW_mono (fun e s hq => ?_) h
  cases e with
  | normal => obtain ⟨x', N', h0, h1, h2, h3⟩ := hq; exact ⟨μ x', h2, _, h3, x', N', h0, rfl, h1, rfl⟩
  | _ => exact hq
theorem loop_open {c : Code} {r : List Item} {Q : Exit → S → Prop} {n m : Nat} {t : List (Nat × AV)} {b : Mem} (id : Nat) {e : AV} (h : look id b = some (.obj e)) (hk : @LoopR P n0 ⟨c, r, Q⟩ .mk (opnS ⟨t, b, n, m⟩ id e)) : @LoopR P n0 ⟨c, r, Q⟩ .mk ⟨t, b, n, m⟩ := by
  obtain ⟨k, hk⟩ := hk
  exact ⟨k, iter_weak (.opn (s := ⟨t, b, n, m⟩) id e h) hk⟩

end Go.Ev
