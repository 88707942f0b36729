/-
A function's specification, and calls under it.
-/
import Derived.Test.YthglbpibfhfgnaaGreatDoorEvCall2
set_option linter.unusedVariables false
set_option linter.unusedSimpArgs false
namespace Go.Ev
variable {P : Program} {E : Env} {s : S} {a : Act} {w : World} {L : List Nat} {K : S → AV → Prop}

def bare (h : Array Obj) (st : Bool → Nat → Prop) : Env := { h := h, st := st, g := fun _ => none }

structure Grow (w : World) (st : Bool → Nat → Prop) (L : List Nat) (w' : World) (st' : Bool → Nat → Prop) (L' : List Nat) : Prop where
  size : w.heap.size ≤ w'.heap.size
  keep : ∀ b, b < w.heap.size → b ∉ L → w'.heap[b]? = w.heap[b]?
  stM : ∀ fl b, st fl b → st' fl b
  stF : ∀ b, st' false b → st false b ∨ st' true b
  stN : ∀ fl b, st' fl b → st fl b ∨ b ∈ L ∨ w.heap.size ≤ b
  new : ∀ b ∈ L', b ∈ L ∨ w.heap.size ≤ b
  os : w'.os = w.os
  tape : w'.tape = w.tape
  output : w'.output = w.output

def Post (w : World) (st : Bool → Nat → Prop) (vs : Array Value) (L : List Nat) (res : AV) (outs : List AV) (e : Ending) (w' : World) : Prop :=
  ∃ v st' L', e = .returned v ∧ RepL (bare w'.heap st') (res :: outs) (v :: vs.toList) L' ∧ Own (bare w'.heap st') L' ∧ Grow w st L w' st' L'

def Enter (P : Program) (f : FuncId) : Prop := ∃ fn, P.funcs[f]? = some fn ∧ (fn.name == "runtime.NumGoroutine") = false ∧ fn.body.isNone = false

/-- Called with values that these arguments stand for, the function returns the result; what its arguments hold behind the call stands in outs. -/
def Spec (P : Program) (f : FuncId) (targs : List AV) (res : AV) (outs : List AV) : Prop := Enter P f ∧
  ∀ (w : World) (st : Bool → Nat → Prop) (vs : Array Value) (L : List Nat), RepL (bare w.heap st) targs vs.toList L → Own (bare w.heap st) L → Calls P f vs w (Post w st vs L res outs)

theorem RepL.base {h : Array Obj} {st : Bool → Nat → Prop} {g : Nat → Option Loc} {as : List AV} {vs : List Value} {l : List Nat} (hr : RepL { h := h, st := st, g := g } as vs l) (hb : BdL 0 as) : RepL (bare h st) as vs l :=
  RepL.rebase (E := { h := h, st := st, g := g }) (E' := bare h st) rfl rfl (fun _ h => absurd h (Nat.not_lt_zero _)) hr hb
theorem ext_bare {h : Array Obj} {st : Bool → Nat → Prop} {E : Env} {l : List Nat} (hh : ∀ b, st false b ∨ b ∈ l → E.h[b]? = h[b]?) (hst : ∀ fl b, st fl b → E.st fl b) (hs : ∀ b, st true b → st false b) : Ext (bare h st) E l :=
  ⟨hh, hst, hs, fun id x hx => by cases hx⟩

/-- What comes back goes to its places. -/
structure BackOk (E : Env) (b b' : Mem) (l L L' : List Nat) (ids : List Nat) : Prop where
  blk : Blks E b' L'
  sub : ∀ c ∈ L', c ∈ l ++ L
  nodup : (l ++ L).Nodup → L'.Nodup
  keys : (b.map (·.1)).Nodup → (b'.map (·.1)).Nodup
  kk : ∀ k ∈ b'.map (·.1), k ∈ b.map (·.1) ∨ k ∈ ids

def idOf : AV → List Nat
  | .loc id _ => [id]
  | _ => []
def idsOf : AV → List Nat
  | .clo _ cs => cs.flatMap idOf
  | v => idOf v

theorem back1_ok {E0 : Env} {b : Mem} {v o : AV} {cv : Value} {l L : List Nat} (hv : Rep E0 v cv []) (hg : ∀ id x, E0.g id = some x → E.g id = some x) (ho : Rep E o cv l) (hb : Blks E b L) (hid : ∀ id ∈ idOf v, id ∉ b.map (·.1)) :
    ∃ L', BackOk E b (back1 b v o) l L L' (idOf v) := by
  have same : ∃ L', BackOk E b b l L L' (idOf v) := ⟨L, hb, fun c hc => List.mem_append_right _ hc, fun h => (List.nodup_append.1 h).2.1, fun h => h, fun k hk => .inl hk⟩
  unfold back1
  split
  · rename_i id j e j'
    split
    · rename_i hj
      subst hj
      cases hv with
      | @loc _ _ x b0 hg0 hob hx =>
        cases ho with
        | @optr _ _ b1 cells ty fr l h1 h2 h3 h4 =>
          have hblk : BlkRep E id (.obj e) (b0 :: l) := .obj (x := x) (hg _ _ hg0) hob hx h1 h2 h3 h4
          refine ⟨(b0 :: l) ++ L, .cons hblk hb, fun c hc => hc, fun h => h, fun h => ?_, fun k hk => ?_⟩
          · simp only [List.map_cons, List.nodup_cons]; exact ⟨hid id (by simp [idOf]), h⟩
          · simp only [List.map_cons, List.mem_cons] at hk
            rcases hk with rfl | hk
            · exact .inr (by simp [idOf])
            · exact .inl hk
    · exact same
  · exact same

theorem BackOk.step {b b1 b2 : Mem} {l m L L1 L2 i1 i2 : List Nat} (h1 : BackOk E b b1 l L L1 i1) (h2 : BackOk E b1 b2 m L1 L2 i2) : BackOk E b b2 (l ++ m) L L2 (i1 ++ i2) where
  blk := h2.blk
  sub c hc := by
    rcases List.mem_append.1 (h2.sub c hc) with h | h
    · simp [h]
    · rcases List.mem_append.1 (h1.sub c h) with h | h <;> simp [h]
  nodup h := by
    have hp : (l ++ m ++ L).Perm (m ++ (l ++ L)) := by
      refine List.perm_iff_count.2 fun z => ?_
      simp only [List.count_append]; omega
    have h' := hp.nodup_iff.1 h
    have hl : (l ++ L).Nodup := (List.nodup_append.1 h').2.1
    refine h2.nodup ?_
    rw [List.nodup_append]
    refine ⟨(List.nodup_append.1 h').1, h1.nodup hl, fun c hc d hd e => ?_⟩
    subst e
    exact (List.nodup_append.1 h').2.2 c hc c (h1.sub c hd) rfl
  keys h := h2.keys (h1.keys h)
  kk k hk := by
    rcases h2.kk k hk with h | h
    · rcases h1.kk k h with h | h
      · exact .inl h
      · exact .inr (by simp [h])
    · exact .inr (by simp [h])

theorem backC_ok {E0 : Env} (hg : ∀ id x, E0.g id = some x → E.g id = some x) : ∀ {vs os : List AV} {cvs : List Value} {b : Mem} {l L : List Nat}, RepL E0 vs cvs [] → RepL E os cvs l → Blks E b L → (∀ id ∈ vs.flatMap idOf, id ∉ b.map (·.1)) → (vs.flatMap idOf).Nodup →
    ∃ L', BackOk E b (backC b vs os) l L L' (vs.flatMap idOf)
  | [], os, cvs, b, l, L, hv, ho, hb, _, _ => by
    refine ⟨L, ?_⟩
    have : backC b [] os = b := by cases os <;> rfl
    rw [this]
    exact ⟨hb, fun c hc => List.mem_append_right _ hc, fun h => (List.nodup_append.1 h).2.1, fun h => h, fun k hk => .inl hk⟩
  | v :: vs, os, cvs, b, l, L, hv, ho, hb, hid, hnd => by
    obtain ⟨cv, cvs', l1, l2, rfl, hl, h1, h2⟩ := hv.inv
    obtain ⟨rfl, rfl⟩ : l1 = [] ∧ l2 = [] := by simpa using hl.symm
    cases os with
    | nil => cases ho
    | cons o os =>
      obtain ⟨cv', cvs'', m1, m2, e, rfl, g1, g2⟩ := ho.inv
      injection e with e1 e2
      subst e1 e2
      simp only [List.flatMap_cons] at hid hnd ⊢
      obtain ⟨L1, hb1⟩ := back1_ok h1 hg g1 hb fun id h => hid id (by simp [h])
      obtain ⟨L2, hb2⟩ := backC_ok hg h2 g2 hb1.blk (fun id h hm => by
        rcases hb1.kk id hm with hm | hm
        · exact hid id (by simp [h]) hm
        · exact (List.nodup_append.1 hnd).2.2 id hm id h rfl) (List.nodup_append.1 hnd).2.1
      exact ⟨L2, by simpa [backC] using hb1.step hb2⟩

theorem back_ok {E0 : Env} {b : Mem} {v o : AV} {cv : Value} {l L : List Nat} (hv : Rep E0 v cv []) (hg : ∀ id x, E0.g id = some x → E.g id = some x) (ho : Rep E o cv l) (hb : Blks E b L) (hid : ∀ id ∈ idsOf v, id ∉ b.map (·.1)) (hnd : (idsOf v).Nodup) :
    ∃ L', BackOk E b (back b v o) l L L' (idsOf v) := by
  by_cases hc : ∃ f cs f' os, v = .clo f cs ∧ o = .clo f' os
  · obtain ⟨f, cs, f', os, rfl, rfl⟩ := hc
    cases hv with
    | clo hv =>
      cases ho with
      | clo ho => exact backC_ok hg hv ho hb hid hnd
  · have h1 : back b v o = back1 b v o := by
      unfold back
      split
      · exact absurd ⟨_, _, _, _, rfl, rfl⟩ hc
      · rfl
    rw [h1]
    obtain ⟨L', h⟩ := back1_ok hv hg ho hb (fun id h => hid id (by cases v <;> first | exact h | (simp [idOf] at h)))
    refine ⟨L', h.blk, h.sub, h.nodup, h.keys, fun k hk => ?_⟩
    rcases h.kk k hk with h | h
    · exact .inl h
    · exact .inr (by cases v <;> first | exact h | (simp [idOf] at h))

def idsG : List Bool → List AV → List Nat
  | true :: g, v :: r => idsOf v ++ idsG g r
  | false :: g, _ :: r => idsG g r
  | _, _ => []

theorem BackOk.more {b b' : Mem} {l m L L' ids : List Nat} (h : BackOk E b b' l L L' ids) : BackOk E b b' (m ++ l) L L' ids where
  blk := h.blk
  sub c hc := by rcases List.mem_append.1 (h.sub c hc) with h | h <;> simp [h]
  nodup hn := h.nodup (by rw [List.append_assoc] at hn; exact (List.nodup_append.1 hn).2.1)
  keys := h.keys
  kk := h.kk

theorem backG_ok {E0 E1 : Env} (hg : ∀ id x, E0.g id = some x → E.g id = some x) {z : Prop} (conv : ∀ o cv l, (z ∨ NoF o) → Rep E1 o cv l → Rep E o cv l) : ∀ {gm : List Bool} {vs os : List AV} {cvs : List Value} {b : Mem} {l L : List Nat}, RepL E0 vs cvs [] → RepL E1 os cvs l → (z ∨ noFG gm os) → Blks E b L →
    (∀ id ∈ idsG gm vs, id ∉ b.map (·.1)) → (idsG gm vs).Nodup → ∃ L', BackOk E b (backG gm b vs os) l L L' (idsG gm vs) := by
  intro gm vs
  induction vs generalizing gm with
  | nil =>
    intro os cvs b l L hv ho hz hb _ _
    have h1 : backG gm b [] os = b := by cases gm with
      | nil => rfl
      | cons g gm => cases g <;> rfl
    have h2 : idsG gm [] = [] := by cases gm with
      | nil => rfl
      | cons g gm => cases g <;> rfl
    rw [h1, h2]
    exact ⟨L, hb, fun c hc => List.mem_append_right _ hc, fun h => (List.nodup_append.1 h).2.1, fun h => h, fun k hk => .inl hk⟩
  | cons v vs ih =>
    intro os cvs b l L hv ho hz hb hid hnd
    obtain ⟨cv, cvs', l1, l2, rfl, hl, h1, h2⟩ := hv.inv
    obtain ⟨rfl, rfl⟩ : l1 = [] ∧ l2 = [] := by simpa using hl.symm
    cases os with
    | nil => cases ho
    | cons o os =>
      obtain ⟨cv', cvs'', m1, m2, e, rfl, g1, g2⟩ := ho.inv
      injection e with e1 e2
      subst e1 e2
      cases gm with
      | nil => exact ⟨L, hb, fun c hc => List.mem_append_right _ hc, fun h => (List.nodup_append.1 h).2.1, fun h => h, fun k hk => .inl hk⟩
      | cons g gm =>
        cases g with
        | false =>
          obtain ⟨L2, hb2⟩ := ih (gm := gm) h2 g2 (hz.imp (fun h => h) fun h => h) hb hid hnd
          exact ⟨L2, hb2.more⟩
        | true =>
          simp only [idsG] at hid hnd ⊢
          obtain ⟨L1, hb1⟩ := back_ok h1 hg (conv _ _ _ (hz.imp (fun h => h) fun h => h.1) g1) hb (fun id h => hid id (by simp [h])) (List.nodup_append.1 hnd).1
          obtain ⟨L2, hb2⟩ := ih (gm := gm) h2 g2 (hz.imp (fun h => h) fun h => h.2) hb1.blk (fun id h hm => by
            rcases hb1.kk id hm with hm | hm
            · exact hid id (by simp [h]) hm
            · exact (List.nodup_append.1 hnd).2.2 id hm id h rfl) (List.nodup_append.1 hnd).2.1
          exact ⟨L2, by simpa [backG] using hb1.step hb2⟩
end Go.Ev
