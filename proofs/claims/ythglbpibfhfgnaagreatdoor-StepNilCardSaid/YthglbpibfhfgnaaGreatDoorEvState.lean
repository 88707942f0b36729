/-
The relation between an abstract state and a frame with its world; how it is kept.
-/
import Derived.Test.YthglbpibfhfgnaaGreatDoorEvRep
set_option linter.unusedVariables false
namespace Go.Ev

inductive BlkRep (E : Env) (id : Nat) : Blk → List Nat → Prop where
  | obj {e : AV} {x : Loc} {b : Nat} {cells : Array Value} {ty : TypeId} {fr : Nat × Nat} {l : List Nat} (hg : E.g id = some x) (ho : x.obj = true) (hx : x.blk = some b)
      (hb : E.h[b]? = some (.cells cells ty fr)) (hf : openB fr cells.size) (h1 : allC1 (cellsOf e) = true) (h : RepL E (cellsOf e) cells.toList l) : BlkRep E id (.obj e) (b :: l)
  | nil {sz : Nat} {fr : Bool} {x : Loc} (hg : E.g id = some x) (ho : x.obj = false) (hx : x.blk = none) (hc : x.cap = 0) (hn : x.n = 0) (hz : x.sz = sz) : BlkRep E id (.row sz [] fr) []
  | row {sz : Nat} {els : List AV} {x : Loc} {b : Nat} {cells : Array Value} {ty : TypeId} {fr : Nat × Nat} {l : List Nat} (hg : E.g id = some x) (ho : x.obj = false) (hx : x.blk = some b) (hn : x.n = els.length)
      (hs : x.sz = sz) (hb : E.h[b]? = some (.cells cells ty fr)) (hf : openB fr cells.size) (hc : cells.size = x.cap * sz) (hl : els.length ≤ x.cap) (hm : els.length ≤ MX) (hz : ∀ e ∈ els, okE sz e)
      (h : RepL E (flat els) (cells.toList.take (els.length * sz)) l) : BlkRep E id (.row sz els false) (b :: l)
  | frz {sz : Nat} {els : List AV} {x : Loc} {b : Nat} {cells : Array Value} {ty : TypeId} {fr : Nat × Nat} (hg : E.g id = some x) (ho : x.obj = false) (hx : x.blk = some b) (hn : x.n = els.length)
      (hs : x.sz = sz) (hb : E.h[b]? = some (.cells cells ty fr)) (hst : E.st true b) (hl : els.length ≤ x.cap) (hm : els.length ≤ MX) (hz : ∀ e ∈ els, okE sz e)
      (h : RepL E (flat els) (cells.toList.take (els.length * sz)) []) : BlkRep E id (.row sz els true) []

  | map {ks vs : List AV} {x : Loc} {b : Nat} {es : Array MapEntry} {clock : Nat} (hg : E.g id = some x) (ho : x.obj = true) (hx : x.blk = some b) (hb : E.h[b]? = some (.map es clock)) (hk : RepL E ks (es.toList.map (·.key)) []) (hv : RepL E vs (es.toList.map (·.val)) []) : BlkRep E id (.map ks vs) [b]

inductive Blks (E : Env) : Mem → List Nat → Prop where
  | nil : Blks E [] []
  | cons {id : Nat} {blk : Blk} {l m : List Nat} {r : Mem} (h : BlkRep E id blk l) (t : Blks E r m) : Blks E ((id, blk) :: r) (l ++ m)

structure Own (E : Env) (L : List Nat) : Prop where
  nodup : L.Nodup
  lt : ∀ b ∈ L, b < E.h.size
  off : ∀ b ∈ L, ¬ E.st false b
  stlt : ∀ fl b, E.st fl b → b < E.h.size
  sub : ∀ b, E.st true b → E.st false b

/-- What has become of the world since the call began. -/
structure Since (w0 : World) (st0 : Bool → Nat → Prop) (L0 : List Nat) (E : Env) (w : World) (L : List Nat) : Prop where
  size : w0.heap.size ≤ w.heap.size
  keep : ∀ b, b < w0.heap.size → b ∉ L0 → w.heap[b]? = w0.heap[b]?
  st : ∀ fl b, st0 fl b → E.st fl b
  stN : ∀ fl b, E.st fl b → st0 fl b ∨ b ∈ L0 ∨ w0.heap.size ≤ b
  new : ∀ b ∈ L, b ∈ L0 ∨ w0.heap.size ≤ b
  os : w.os = w0.os
  tape : w.tape = w0.tape
  output : w.output = w0.output

structure R (E : Env) (s : S) (a : Act) (w : World) (L : List Nat) : Prop where
  heap : E.h = w.heap
  m : s.m = a.tmps.size
  tmp : ∀ k v, look k s.t = some v → Rep E v (a.tmps.getD k undef) []
  blk : Blks E s.b L
  keys : (s.b.map (·.1)).Nodup
  own : Own E L
  gn : ∀ id x, E.g id = some x → id < s.n
  defers : a.defers = []

/-! ### Blocks -/
theorem BlkRep.loc {E : Env} {id : Nat} {blk : Blk} {l : List Nat} (h : BlkRep E id blk l) : ∃ x, E.g id = some x := by cases h <;> exact ⟨_, ‹_›⟩

/-- The memory has grown; of this block nothing is told anew. -/
theorem BlkRep.ext {E E' : Env} {id : Nat} {blk : Blk} {l : List Nat} (h : BlkRep E id blk l) (x : Ext E E' l) (hg : E'.g id = E.g id) : BlkRep E' id blk l := by
  cases h with
  | obj h0 ho hx hb hf h1 h => exact .obj (hg.trans h0) ho hx ((x.heap _ (.inr (by simp))).trans hb) hf h1 (h.ext (x.mono fun b hb => by simp [hb]))
  | nil h0 ho hx hc hn hz => exact .nil (hg.trans h0) ho hx hc hn hz
  | row h0 ho hx hn hs hb hf hc hl hm hz h => exact .row (hg.trans h0) ho hx hn hs ((x.heap _ (.inr (by simp))).trans hb) hf hc hl hm hz (h.ext (x.mono fun b hb => by simp [hb]))
  | frz h0 ho hx hn hs hb hst hl hm hz h => exact .frz (hg.trans h0) ho hx hn hs ((x.heap _ (.inl (x.sub _ hst))).trans hb) (x.st _ _ hst) hl hm hz (h.ext x)
  | map h0 ho hx hb hk hv => exact .map (hg.trans h0) ho hx ((x.heap _ (.inr (by simp))).trans hb) (hk.ext (x.mono (by simp))) (hv.ext (x.mono (by simp)))

theorem Blks.ext {E E' : Env} : ∀ {b : Mem} {L : List Nat}, Blks E b L → Ext E E' L → (∀ id, id ∈ b.map (·.1) → E'.g id = E.g id) → Blks E' b L
  | _, _, .nil, _, _ => .nil
  | _, _, .cons h t, x, hg => .cons (h.ext x.left (hg _ (by simp))) (t.ext x.right fun id hid => hg id (by simp only [List.map_cons, List.mem_cons]; exact .inr hid))

theorem look_mem {α : Type} {id : Nat} {v : α} : ∀ {b : List (Nat × α)}, look id b = some v → id ∈ b.map (·.1)
  | [], h => by simp [look] at h
  | (k, u) :: r, h => by
    simp only [look] at h
    by_cases hk : k = id
    · simp [hk]
    · rw [if_neg hk] at h; simp only [List.map_cons, List.mem_cons]; exact .inr (look_mem h)

theorem keys_setB {id : Nat} {blk : Blk} : ∀ {b : Mem}, (setB id blk b).map (·.1) = b.map (·.1)
  | [] => rfl
  | (k, u) :: r => by
    simp only [setB]
    split
    · rfl
    · simp [keys_setB (b := r)]
theorem keys_delB {id : Nat} : ∀ {b : Mem}, (delB id b).map (·.1) = (b.map (·.1)).erase id
  | [] => rfl
  | (k, u) :: r => by
    simp only [delB]
    by_cases hk : k = id
    · simp [hk]
    · rw [if_neg hk, List.map_cons, List.map_cons, List.erase_cons_tail (by simpa using hk), keys_delB (b := r)]

/-- One block of the memory, and what is around it. -/
theorem Blks.get {E : Env} {id : Nat} {blk : Blk} : ∀ {b : Mem} {L : List Nat}, Blks E b L → look id b = some blk → ∃ p l q, L = p ++ (l ++ q) ∧ BlkRep E id blk l ∧ Blks E (delB id b) (p ++ q)
  | [], _, _, h => by simp [look] at h
  | (k, u) :: r, _, .cons (l := l) (m := m) h t, hl => by
    simp only [look] at hl
    by_cases hk : k = id
    · rw [if_pos hk] at hl
      injection hl with hl
      subst hl hk
      exact ⟨[], l, m, rfl, h, by simpa [delB] using t⟩
    · rw [if_neg hk] at hl
      obtain ⟨p, l', q, rfl, h1, h2⟩ := Blks.get t hl
      refine ⟨l ++ p, l', q, by simp, h1, ?_⟩
      have := Blks.cons h h2
      simp only [delB, if_neg hk]
      simpa [List.append_assoc] using this

/-- The block written anew, the others kept. -/
theorem Blks.set {E : Env} {id : Nat} {blk : Blk} : ∀ {b : Mem} {L : List Nat}, Blks E b L → look id b = some blk → (b.map (·.1)).Nodup →
    ∃ p l q, L = p ++ (l ++ q) ∧ BlkRep E id blk l ∧ (∀ E' blk' l', BlkRep E' id blk' l' → Ext E E' (p ++ q) → (∀ i, i ≠ id → i ∈ b.map (·.1) → E'.g i = E.g i) → Blks E' (setB id blk' b) (p ++ (l' ++ q)))
  | [], _, _, h, _ => by simp [look] at h
  | (k, u) :: r, _, .cons (l := l) (m := m) h t, hl, hn => by
    simp only [look] at hl
    simp only [List.map_cons, List.nodup_cons] at hn
    by_cases hk : k = id
    · rw [if_pos hk] at hl
      injection hl with hl
      subst hl hk
      refine ⟨[], l, m, rfl, h, fun E' blk' l' h' x hg => ?_⟩
      simp only [setB, if_true, List.nil_append]
      exact .cons h' (t.ext (by simpa using x) fun i hi => hg i (fun e => hn.1 (e ▸ hi)) (by simp only [List.map_cons, List.mem_cons]; exact .inr hi))
    · rw [if_neg hk] at hl
      obtain ⟨p, l', q, rfl, h1, h2⟩ := Blks.set t hl hn.2
      refine ⟨l ++ p, l', q, by simp, h1, fun E' blk' m' h' x hg => ?_⟩
      simp only [setB, if_neg hk]
      have := Blks.cons (h.ext (x.mono fun b hb => by simp [hb]) (hg k hk (by simp))) (h2 E' blk' m' h' (x.mono fun b hb => by
        simp only [List.mem_append] at hb ⊢
        rcases hb with hb | hb
        · exact .inl (.inr hb)
        · exact .inr hb) fun i hi hm => hg i hi (by simp only [List.map_cons, List.mem_cons]; exact .inr hm))
      simpa [List.append_assoc] using this

theorem R.get {E : Env} {s : S} {a : Act} {w : World} {L : List Nat} (h : R E s a w L) {id : Nat} {blk : Blk} (hl : look id s.b = some blk) : ∃ l, BlkRep E id blk l ∧ ∀ b ∈ l, b ∈ L := by
  obtain ⟨p, l, q, e, h1, _⟩ := h.blk.get hl
  exact ⟨l, h1, fun b hb => by rw [e]; simp [hb]⟩

theorem R.put {E : Env} {s : S} {a : Act} {w : World} {L : List Nat} (h : R E s a w L) {d : Option Tmp} {v : AV} {cv : Value} (hv : Rep E v cv []) : R E (s.put d v) (a.put d cv) w L := by
  cases d with
  | none => exact h
  | some d =>
    by_cases hd : d < s.m
    · have hsz : d < a.tmps.size := by rw [← h.m]; exact hd
      simp only [S.put, hd, if_true]
      refine ⟨h.heap, by simpa [Act.put] using h.m, fun k u hk => ?_, h.blk, h.keys, h.own, h.gn, h.defers⟩
      simp only [look] at hk
      by_cases hkd : d = k
      · rw [if_pos hkd] at hk
        injection hk with hk
        subst hk hkd
        simpa [Act.put, Array.getElem?_setIfInBounds, hsz] using hv
      · rw [if_neg hkd] at hk
        have := h.tmp k u hk
        simpa [Act.put, Array.getElem?_setIfInBounds, hkd] using this
    · have he : a.put (some d) cv = a := by
        have hs : a.tmps.size ≤ d := by rw [← h.m]; exact Nat.le_of_not_lt hd
        cases a
        simp only [Act.put, Act.mk.injEq, and_true]
        exact Array.setIfInBounds_eq_of_size_le hs
      rw [he]
      simp only [S.put, hd, if_false]
      exact h

theorem R.eval {E : Env} {s : S} {a : Act} {w : World} {L : List Nat} (h : R E s a w L) {x : Operand} {v : AV} (hx : opnd s x = some v) : Rep E v (a.eval x) [] := by
  cases x with
  | tmp t => exact h.tmp t v hx
  | func f => simp only [opnd, Option.some.injEq] at hx; subst hx; exact .clo (by simpa using RepL.nil)
  | global g => simp [opnd] at hx
  | const c =>
    simp only [opnd, Option.some.injEq] at hx
    subst hx
    have h1 : ∀ c, Rep E (ofV1 c) c [] := by
      intro c
      unfold ofV1
      split <;> try constructor
      · split
        · rename_i h; exact .str _ h
        · exact .undef _
    unfold ofV
    split
    · rename_i cs
      refine .agg ?_
      show RepL E (cs.toList.map ofV1) cs.toList []
      generalize cs.toList = l
      induction l with
      | nil => exact .nil
      | cons c l ih => exact .cons (l := []) (m := []) (h1 c) ih
    · exact h1 _

/-! ### What an operation may do to the world -/
structure Move (E : Env) (w : World) (L : List Nat) (E' : Env) (w' : World) (L' : List Nat) : Prop where
  ext : Ext E E' []
  heap : E'.h = w'.heap
  size : w.heap.size ≤ w'.heap.size
  keep : ∀ b, b < w.heap.size → b ∉ L → w'.heap[b]? = w.heap[b]?
  stN : ∀ fl b, E'.st fl b → E.st fl b ∨ b ∈ L ∨ w.heap.size ≤ b
  new : ∀ b ∈ L', b ∈ L ∨ w.heap.size ≤ b
  own : Own E' L'
  os : w'.os = w.os
  tape : w'.tape = w.tape
  output : w'.output = w.output
  stF : ∀ b, E'.st false b → E.st false b ∨ E'.st true b

theorem R.step {E E' : Env} {s : S} {a : Act} {w w' : World} {L L' : List Nat} (h : R E s a w L) (x : Move E w L E' w' L') {b : Mem} {n : Nat} (hb : Blks E' b L') (hk : (b.map (·.1)).Nodup)
    (hg : ∀ id x, E'.g id = some x → id < n) : R E' { s with b := b, n := n } a w' L' :=
  ⟨x.heap, h.m, fun k v hv => (h.tmp k v hv).ext x.ext, hb, hk, x.own, hg, h.defers⟩

theorem Since.step {w0 : World} {st0 : Bool → Nat → Prop} {L0 : List Nat} {E E' : Env} {w w' : World} {L L' : List Nat} (h : Since w0 st0 L0 E w L) (x : Move E w L E' w' L') : Since w0 st0 L0 E' w' L' where
  size := Nat.le_trans h.size x.size
  keep b hb hn := by
    have h1 : b ∉ L := fun hm => by
      rcases h.new b hm with h | h
      · exact hn h
      · omega
    rw [x.keep b (Nat.lt_of_lt_of_le hb h.size) h1, h.keep b hb hn]
  st fl b hb := x.ext.st _ _ (h.st fl b hb)
  stN fl b hb := by
    rcases x.stN fl b hb with h1 | h1 | h1
    · exact h.stN fl b h1
    · exact .inr (h.new b h1)
    · exact .inr (.inr (Nat.le_trans h.size h1))
  new b hb := by
    rcases x.new b hb with h1 | h1
    · exact h.new b h1
    · exact .inr (Nat.le_trans h.size h1)
  os := x.os.trans h.os
  tape := x.tape.trans h.tape
  output := x.output.trans h.output

/-- Nothing but numbers of own memory is new; what was owned is owned, in another order, or no more. -/
theorem Move.same {E : Env} {w : World} {L L' : List Nat} (hh : E.h = w.heap) (ho : Own E L) {g : Nat → Option Loc} (hg : ∀ id x, E.g id = some x → g id = some x) (hn : L'.Nodup) (hs : ∀ b ∈ L', b ∈ L) :
    Move E w L { E with g := g } w L' where
  ext := ⟨fun _ _ => rfl, fun _ _ h => h, ho.sub, fun id x h => ⟨x, hg id x h, .inl rfl⟩⟩
  heap := hh
  size := Nat.le_refl _
  keep _ _ _ := rfl
  stN _ _ h := .inl h
  new b hb := .inl (hs b hb)
  own := ⟨hn, fun b hb => ho.lt b (hs b hb), fun b hb => ho.off b (hs b hb), ho.stlt, ho.sub⟩
  os := rfl
  tape := rfl
  output := rfl
  stF _ h := .inl h

theorem Ext.gOnly {E : Env} {l : List Nat} (hs : ∀ b, E.st true b → E.st false b) {g : Nat → Option Loc} (hg : ∀ id x, E.g id = some x → g id = some x) : Ext E { E with g := g } l :=
  ⟨fun _ _ => rfl, fun _ _ h => h, hs, fun id x h => ⟨x, hg id x h, .inl rfl⟩⟩

def updG (g : Nat → Option Loc) (n : Nat) (x : Loc) : Nat → Option Loc := fun i => if i = n then some x else g i

structure UnfOk (E : Env) (v : AV) (cv : Value) (b : Mem) (n : Nat) (l L : List Nat) (r : AV × Mem × Nat) (g : Nat → Option Loc) (L' : List Nat) : Prop where
  old : ∀ id x, E.g id = some x → g id = some x
  gn : ∀ id x, g id = some x → id < r.2.2
  le : n ≤ r.2.2
  rep : Rep { E with g := g } r.1 cv []
  blk : Blks { E with g := g } r.2.1 L'
  perm : L'.Perm (l ++ L)
  keys : (r.2.1.map (·.1)).Nodup
  lt : ∀ k ∈ r.2.1.map (·.1), k < r.2.2
  kk : ∀ k ∈ r.2.1.map (·.1), k ∈ b.map (·.1) ∨ n ≤ k
structure UnfOkL (E : Env) (v : List AV) (cv : List Value) (b : Mem) (n : Nat) (l L : List Nat) (r : List AV × Mem × Nat) (g : Nat → Option Loc) (L' : List Nat) : Prop where
  old : ∀ id x, E.g id = some x → g id = some x
  gn : ∀ id x, g id = some x → id < r.2.2
  le : n ≤ r.2.2
  rep : RepL { E with g := g } r.1 cv []
  blk : Blks { E with g := g } r.2.1 L'
  perm : L'.Perm (l ++ L)
  keys : (r.2.1.map (·.1)).Nodup
  lt : ∀ k ∈ r.2.1.map (·.1), k < r.2.2
  kk : ∀ k ∈ r.2.1.map (·.1), k ∈ b.map (·.1) ∨ n ≤ k

theorem updG_old {E : Env} {n : Nat} {x : Loc} (gn : ∀ id x, E.g id = some x → id < n) : ∀ id y, E.g id = some y → updG E.g n x id = some y := by
  intro id y h
  have := gn id y h
  simp only [updG, if_neg (show ¬ id = n by omega), h]
theorem updG_lt {E : Env} {n : Nat} {x : Loc} (gn : ∀ id x, E.g id = some x → id < n) : ∀ id y, updG E.g n x id = some y → id < n + 1 := by
  intro id y h
  simp only [updG] at h
  split at h
  · omega
  · have := gn id y h; omega
theorem updG_new {E : Env} {n : Nat} {x : Loc} : updG E.g n x n = some x := by simp [updG]

/-- A new number over the memory as it was. -/
theorem Blks.updG {E : Env} {b : Mem} {L : List Nat} {n : Nat} {x : Loc} (h : Blks E b L) (hs : ∀ b, E.st true b → E.st false b) (gn : ∀ id x, E.g id = some x → id < n) (hlt : ∀ k ∈ b.map (·.1), k < n) :
    Blks { E with g := Ev.updG E.g n x } b L :=
  h.ext (.gOnly hs (updG_old gn)) fun id hid => by
    have := hlt id hid
    simp only [Ev.updG, if_neg (show ¬ id = n by omega)]

mutual
theorem unf_ok {E : Env} (hs : ∀ b, E.st true b → E.st false b) : ∀ (v : AV) (cv : Value) (b : Mem) (n : Nat) (l L : List Nat), Rep E v cv l → Blks E b L → (∀ id x, E.g id = some x → id < n) → (b.map (·.1)).Nodup →
    (∀ k ∈ b.map (·.1), k < n) → ∃ g L', UnfOk E v cv b n l L (unf v b n) g L'
  | .olst sz els, cv, b, n, l, L, h, hb, gn, hk, hlt => by
    simp only [unf]
    have hk' : (((n, Blk.row sz els false) :: b).map (·.1)).Nodup := by
      simp only [List.map_cons, List.nodup_cons]
      exact ⟨fun hm => by have := hlt n hm; omega, hk⟩
    have hlt' : ∀ k ∈ ((n, Blk.row sz els false) :: b).map (·.1), k < n + 1 := by
      intro k hm
      simp only [List.map_cons, List.mem_cons] at hm
      rcases hm with rfl | hm
      · omega
      · have := hlt k hm; omega
    cases h with
    | olst0 =>
      refine ⟨updG E.g n ⟨false, none, 0, 0, sz⟩, L, ⟨updG_old gn, updG_lt gn, by simp, ?_, ?_, by simp, hk', hlt', fun k h => by simp only [List.map_cons, List.mem_cons] at h; rcases h with rfl | h; exact .inr (Nat.le_refl _); exact .inl h⟩⟩
      · exact .row (l := ⟨false, none, 0, 0, sz⟩) updG_new rfl (by simp) ⟨none, 0, rfl⟩ (fun _ => ⟨none, rfl, fun _ => rfl⟩)
      · exact Blks.cons (l := []) (.nil (x := ⟨false, none, 0, 0, sz⟩) updG_new rfl rfl rfl rfl rfl) (hb.updG hs gn hlt)
    | @olst _ _ b0 cap cells ty fr l h1 h2 h3 h4 h5 h6 h7 =>
      refine ⟨updG E.g n ⟨false, some b0, cap, els.length, sz⟩, (b0 :: l) ++ L, ⟨updG_old gn, updG_lt gn, by simp, ?_, ?_, .refl _, hk', hlt', fun k h => by simp only [List.map_cons, List.mem_cons] at h; rcases h with rfl | h; exact .inr (Nat.le_refl _); exact .inl h⟩⟩
      · exact .row (l := ⟨false, some b0, cap, els.length, sz⟩) updG_new rfl (by simp) ⟨_, _, rfl⟩ (fun _ => ⟨_, by simp; rfl, fun _ => by simp⟩)
      · exact .cons (.row (x := ⟨false, some b0, cap, els.length, sz⟩) updG_new rfl rfl rfl rfl h1 h2 h3 h4 h5 h6 (h7.ext (.gOnly hs (updG_old gn)))) (hb.updG hs gn hlt)
  | .optr e j, cv, b, n, l, L, h, hb, gn, hk, hlt => by
    simp only [unf]
    have hk' : (((n, Blk.obj e) :: b).map (·.1)).Nodup := by
      simp only [List.map_cons, List.nodup_cons]
      exact ⟨fun hm => by have := hlt n hm; omega, hk⟩
    have hlt' : ∀ k ∈ ((n, Blk.obj e) :: b).map (·.1), k < n + 1 := by
      intro k hm
      simp only [List.map_cons, List.mem_cons] at hm
      rcases hm with rfl | hm
      · omega
      · have := hlt k hm; omega
    cases h with
    | @optr _ _ b0 cells ty fr l h1 h2 h3 h4 =>
      refine ⟨updG E.g n ⟨true, some b0, 0, 0, 0⟩, (b0 :: l) ++ L, ⟨updG_old gn, updG_lt gn, by simp, ?_, ?_, .refl _, hk', hlt', fun k h => by simp only [List.map_cons, List.mem_cons] at h; rcases h with rfl | h; exact .inr (Nat.le_refl _); exact .inl h⟩⟩
      · exact .loc (l := ⟨true, some b0, 0, 0, 0⟩) updG_new rfl rfl
      · exact .cons (.obj (x := ⟨true, some b0, 0, 0, 0⟩) updG_new rfl rfl h1 h2 h3 (h4.ext (.gOnly hs (updG_old gn)))) (hb.updG hs gn hlt)
  | .omp ks vs, cv, b, n, l, L, h, hb, gn, hk, hlt => by
    simp only [unf]
    have hk' : (((n, Blk.map ks vs) :: b).map (·.1)).Nodup := by
      simp only [List.map_cons, List.nodup_cons]
      exact ⟨fun hm => by have := hlt n hm; omega, hk⟩
    have hlt' : ∀ k ∈ ((n, Blk.map ks vs) :: b).map (·.1), k < n + 1 := by
      intro k hm
      simp only [List.map_cons, List.mem_cons] at hm
      rcases hm with rfl | hm
      · omega
      · have := hlt k hm; omega
    cases h with
    | @omp _ _ es clock b0 h1 h2 h3 =>
      refine ⟨updG E.g n ⟨true, some b0, 0, 0, 0⟩, [b0] ++ L, ⟨updG_old gn, updG_lt gn, by simp, ?_, ?_, .refl _, hk', hlt', fun k h => by simp only [List.map_cons, List.mem_cons] at h; rcases h with rfl | h; exact .inr (Nat.le_refl _); exact .inl h⟩⟩
      · exact .mp (l := ⟨true, some b0, 0, 0, 0⟩) updG_new rfl rfl
      · exact .cons (.map (x := ⟨true, some b0, 0, 0, 0⟩) updG_new rfl rfl h1 (h2.ext (.gOnly hs (updG_old gn))) (h3.ext (.gOnly hs (updG_old gn)))) (hb.updG hs gn hlt)
  | .agg cs, cv, b, n, l, L, h, hb, gn, hk, hlt => by
    cases h with
    | agg h =>
      obtain ⟨g, L', r⟩ := unfL_ok hs cs _ b n l L h hb gn hk hlt
      exact ⟨g, L', ⟨r.old, r.gn, r.le, .agg r.rep, r.blk, r.perm, r.keys, r.lt, r.kk⟩⟩
  | .tup cs, cv, b, n, l, L, h, hb, gn, hk, hlt => by
    cases h with
    | tup h =>
      obtain ⟨g, L', r⟩ := unfL_ok hs cs _ b n l L h hb gn hk hlt
      exact ⟨g, L', ⟨r.old, r.gn, r.le, .tup r.rep, r.blk, r.perm, r.keys, r.lt, r.kk⟩⟩
  | .clo f cs, cv, b, n, l, L, h, hb, gn, hk, hlt => by
    cases h with
    | clo h =>
      obtain ⟨g, L', r⟩ := unfL_ok hs cs _ b n l L h hb gn hk hlt
      exact ⟨g, L', ⟨r.old, r.gn, r.le, .clo r.rep, r.blk, r.perm, r.keys, r.lt, r.kk⟩⟩
  | .bool _, _, _, _, _, L, h, hb, gn, hk, hlt => by cases h; exact ⟨E.g, L, ⟨fun _ _ h => h, gn, Nat.le_refl _, .bool _, hb, .refl _, hk, hlt, fun _ h => .inl h⟩⟩
  | .int _ _, _, _, _, _, L, h, hb, gn, hk, hlt => by cases h; exact ⟨E.g, L, ⟨fun _ _ h => h, gn, Nat.le_refl _, .int _ _, hb, .refl _, hk, hlt, fun _ h => .inl h⟩⟩
  | .str _, _, _, _, _, L, h, hb, gn, hk, hlt => by cases h; exact ⟨E.g, L, ⟨fun _ _ h => h, gn, Nat.le_refl _, .str _ ‹_›, hb, .refl _, hk, hlt, fun _ h => .inl h⟩⟩
  | .nilp, _, _, _, _, L, h, hb, gn, hk, hlt => by cases h; exact ⟨E.g, L, ⟨fun _ _ h => h, gn, Nat.le_refl _, .nilp, hb, .refl _, hk, hlt, fun _ h => .inl h⟩⟩
  | .loc _ _, _, _, _, _, L, h, hb, gn, hk, hlt => by cases h; exact ⟨E.g, L, ⟨fun _ _ h => h, gn, Nat.le_refl _, .loc ‹_› ‹_› ‹_›, hb, .refl _, hk, hlt, fun _ h => .inl h⟩⟩
  | .elp _ _ _ _, _, _, _, _, L, h, hb, gn, hk, hlt => by cases h; exact ⟨E.g, L, ⟨fun _ _ h => h, gn, Nat.le_refl _, .elp ‹_› ‹_› ‹_› ‹_› ‹_›, hb, .refl _, hk, hlt, fun _ h => .inl h⟩⟩
  | .fz _, _, _, _, _, L, h, hb, gn, hk, hlt => by cases h; exact ⟨E.g, L, ⟨fun _ _ h => h, gn, Nat.le_refl _, .fz ‹_› ‹_› ‹_›, hb, .refl _, hk, hlt, fun _ h => .inl h⟩⟩
  | .lst _ _ _, _, _, _, _, L, h, hb, gn, hk, hlt => by
    cases h with
    | lst0 => exact ⟨E.g, L, ⟨fun _ _ h => h, gn, Nat.le_refl _, .lst0 _ _ _ _, hb, .refl _, hk, hlt, fun _ h => .inl h⟩⟩
    | lst h1 h2 h3 h4 h5 h6 h7 => exact ⟨E.g, L, ⟨fun _ _ h => h, gn, Nat.le_refl _, .lst h1 h2 h3 h4 h5 h6 h7, hb, .refl _, hk, hlt, fun _ h => .inl h⟩⟩
  | .row _ _ _ _, _, _, _, _, L, h, hb, gn, hk, hlt => by cases h; exact ⟨E.g, L, ⟨fun _ _ h => h, gn, Nat.le_refl _, .row ‹_› ‹_› ‹_› ‹_› ‹_›, hb, .refl _, hk, hlt, fun _ h => .inl h⟩⟩
  | .rowc _ _ _ _, _, _, _, _, L, h, hb, gn, hk, hlt => by cases h; exact ⟨E.g, L, ⟨fun _ _ h => h, gn, Nat.le_refl _, .rowc ‹_› ‹_› ‹_› ‹_› ‹_›, hb, .refl _, hk, hlt, fun _ h => .inl h⟩⟩
  | .nilf, _, _, _, _, L, h, hb, gn, hk, hlt => by cases h; exact ⟨E.g, L, ⟨fun _ _ h => h, gn, Nat.le_refl _, .nilf, hb, .refl _, hk, hlt, fun _ h => .inl h⟩⟩
  | .nili, _, _, _, _, L, h, hb, gn, hk, hlt => by cases h; exact ⟨E.g, L, ⟨fun _ _ h => h, gn, Nat.le_refl _, .nili, hb, .refl _, hk, hlt, fun _ h => .inl h⟩⟩
  | .nilm, _, _, _, _, L, h, hb, gn, hk, hlt => by cases h; exact ⟨E.g, L, ⟨fun _ _ h => h, gn, Nat.le_refl _, .nilm, hb, .refl _, hk, hlt, fun _ h => .inl h⟩⟩
  | .mp _, _, _, _, _, L, h, hb, gn, hk, hlt => by cases h; exact ⟨E.g, L, ⟨fun _ _ h => h, gn, Nat.le_refl _, .mp ‹_› ‹_› ‹_›, hb, .refl _, hk, hlt, fun _ h => .inl h⟩⟩
  | .undef, _, _, _, _, L, h, hb, gn, hk, hlt => by cases h; exact ⟨E.g, L, ⟨fun _ _ h => h, gn, Nat.le_refl _, .undef _, hb, .refl _, hk, hlt, fun _ h => .inl h⟩⟩
theorem unfL_ok {E : Env} (hs : ∀ b, E.st true b → E.st false b) : ∀ (v : List AV) (cv : List Value) (b : Mem) (n : Nat) (l L : List Nat), RepL E v cv l → Blks E b L → (∀ id x, E.g id = some x → id < n) → (b.map (·.1)).Nodup →
    (∀ k ∈ b.map (·.1), k < n) → ∃ g L', UnfOkL E v cv b n l L (unfL v b n) g L'
  | [], _, b, n, _, L, h, hb, gn, hk, hlt => by cases h; exact ⟨E.g, L, ⟨fun _ _ h => h, gn, Nat.le_refl _, .nil, hb, .refl _, hk, hlt, fun _ h => .inl h⟩⟩
  | v :: vs, _, b, n, _, L, h, hb, gn, hk, hlt => by
    cases h with
    | @cons _ cv _ cvs l m h t =>
      obtain ⟨g1, L1, r1⟩ := unf_ok hs v cv b n l L h hb gn hk hlt
      obtain ⟨g2, L2, r2⟩ := unfL_ok (E := { E with g := g1 }) hs vs cvs _ _ m L1 (t.ext (.gOnly hs r1.old)) r1.blk r1.gn r1.keys r1.lt
      refine ⟨g2, L2, ⟨fun id x h => r2.old id x (r1.old id x h), r2.gn, Nat.le_trans r1.le r2.le, ?_, r2.blk, ?_, r2.keys, r2.lt, fun k h => by
        rcases r2.kk k h with h | h
        · exact r1.kk k h
        · exact .inr (Nat.le_trans r1.le h)⟩⟩
      · exact .cons (l := []) (m := []) (r1.rep.ext (.gOnly (E := { E with g := g1 }) hs r2.old)) r2.rep
      · refine r2.perm.trans ?_
        refine (r1.perm.append_left m).trans ?_
        rw [← List.append_assoc]
        exact List.Perm.append_right L List.perm_append_comm
end
end Go.Ev
