/-
The closed evaluator: what its values and its memory stand for.
-/
import Derived.Test.YthglbpibfhfgnaaGreatDoorEb1
set_option linter.unusedVariables false
namespace Go.Eb
open Go.Ev (szT byT aggO offT fszT TK kindT elemK zok LK leavesT openB)

/-- Where a block of own memory lies: the world's block, the first cell, how many cells that block has. -/
structure Lc where
  blk : Nat
  base : Nat
  size : Nat
/-- Where blocks lie, by number; numbers from top on are free. -/
structure Env where
  f : Nat → Option Lc
  top : Nat
instance : CoeFun Env (fun _ => Nat → Option Lc) := ⟨Env.f⟩

def natsOf (s : ByteArray) : List Nat := s.data.toList.map (·.toNat)
def capIs (x : Lc) (off e cap : Nat) : Option Nat → Prop
  | some c => cap = c ∧ x.base + off + cap * e ≤ x.size
  | none => x.base + off + cap * e = x.size

mutual
inductive Rep (g : Env) : V → Value → Prop where
  | undef {cv : Value} (h : cv.oneCell' = true) : Rep g .undef cv
  | anyb (b : Bool) : Rep g .anyb (.bool b)
  | rng {k : IntKind} {lo hi n : Int} (h1 : lo ≤ n) (h2 : n ≤ hi) : Rep g (.rng k lo hi) (.int k n)
  | anys {lo hi : Nat} {s : ByteArray} (h1 : lo ≤ s.size) (h2 : s.size ≤ hi) (hs : s.size ≤ 140737488355328) : Rep g (.anys lo hi) (.string s)
  | bool (b : Bool) : Rep g (.bool b) (.bool b)
  | int (k : IntKind) (n : Int) : Rep g (.int k n) (.int k n)
  | str {s : ByteArray} {l : List Nat} (h : l = natsOf s) (hs : s.size ≤ 140737488355328) : Rep g (.str l) (.string s)
  | nilp : Rep g .nilp (.pointer none)
  | ptr {id off : Nat} {x : Lc} (hg : g id = some x) : Rep g (.ptr id off) (.pointer (some ⟨x.blk, x.base + off, none⟩))
  | glob (k : Nat) : Rep g (.glob k) (.pointer (some ⟨k, 0, none⟩))
  | nils : Rep g .nils (.slice none 0 0)
  | sl {id off e len cap : Nat} {lim : Option Nat} {x : Lc} {p : Addr} (hg : g id = some x) (he : 0 < e) (hl : len ≤ cap) (hp : 0 < cap → p = ⟨x.blk, x.base + off, none⟩) (hc : capIs x off e cap lim) :
      Rep g (.sl id off e len lim) (.slice (some p) len cap)
  | nilm : Rep g .nilm (.map none)
  | mp {id : Nat} {x : Lc} (hg : g id = some x) : Rep g (.mp id) (.map (some x.blk))
  | nilf : Rep g .nilf .nilFunc
  | clo {f : Nat} {cs : List V} {vs : Array Value} (h : RepL g cs vs.toList) : Rep g (.clo f cs) (.func (.func f) #[] vs)
  | nili : Rep g .nili .nilIface
  | ifc {t : Nat} {v : V} {cv : Value} (h : Rep g v cv) : Rep g (.ifc t v) (.iface t cv)
  | agg {cs : List V} {vs : Array Value} (h : RepL g cs vs.toList) (h1 : ∀ c ∈ cs, c1 c = true) : Rep g (.agg cs) (.agg vs)
  | tup {cs : List V} {vs : Array Value} (h : RepL g cs vs.toList) : Rep g (.tup cs) (.tuple vs)
inductive RepL (g : Env) : List V → List Value → Prop where
  | nil : RepL g [] []
  | cons {a : V} {v : Value} {as : List V} {vs : List Value} (h : Rep g a v) (t : RepL g as vs) : RepL g (a :: as) (v :: vs)
end

def Sub (g g' : Env) : Prop := ∀ id x, g id = some x → g' id = some x
theorem Sub.refl (g : Env) : Sub g g := fun _ _ h => h
theorem Sub.trans {g1 g2 g3 : Env} (h : Sub g1 g2) (h' : Sub g2 g3) : Sub g1 g3 := fun id x hx => h' id x (h id x hx)

theorem Rep.mono {g g' : Env} (hs : Sub g g') {v : V} {cv : Value} (h : Rep g v cv) : Rep g' v cv := by
  refine @Rep.rec g (fun v cv _ => Rep g' v cv) (fun vs cvs _ => RepL g' vs cvs) ?_ ?_ ?_ ?_ ?_ ?_ ?_ ?_ ?_ ?_ ?_ ?_ ?_ ?_ ?_ ?_ ?_ ?_ ?_ ?_ ?_ ?_ v cv h
  · intro cv h; exact .undef h
  · intro b; exact .anyb b
  · intro k lo hi n h1 h2; exact .rng h1 h2
  · intro lo hi s h1 h2 hs; exact .anys h1 h2 hs
  · intro b; exact .bool b
  · intro k n; exact .int k n
  · intro s l h hs; exact .str h hs
  · exact .nilp
  · intro id off x hg; exact .ptr (hs _ _ hg)
  · intro k; exact .glob k
  · exact .nils
  · intro id off e len cap lim x p hg he hl hp hc; exact .sl (hs _ _ hg) he hl hp hc
  · exact .nilm
  · intro id x hg; exact .mp (hs _ _ hg)
  · exact .nilf
  · intro f cs vs _ ih; exact .clo ih
  · exact .nili
  · intro t v cv _ ih; exact .ifc ih
  · intro cs vs _ h1 ih; exact .agg ih h1
  · intro cs vs _ ih; exact .tup ih
  · exact .nil
  · intro a v as vs _ _ ih1 ih2; exact .cons ih1 ih2
theorem RepL.mono {g g' : Env} (hs : Sub g g') : ∀ {vs : List V} {cvs : List Value}, RepL g vs cvs → RepL g' vs cvs
  | _, _, .nil => .nil
  | _, _, .cons h t => .cons (h.mono hs) (t.mono hs)

theorem RepL.length {g : Env} : ∀ {vs : List V} {cvs : List Value}, RepL g vs cvs → vs.length = cvs.length
  | _, _, .nil => rfl
  | _, _, .cons _ t => by simp [t.length]
theorem RepL.inv {g : Env} {a : V} {as : List V} {ws : List Value} (h : RepL g (a :: as) ws) : ∃ v vs, ws = v :: vs ∧ Rep g a v ∧ RepL g as vs := by
  cases h with | cons h t => exact ⟨_, _, rfl, h, t⟩
theorem RepL.inv0 {g : Env} {ws : List Value} (h : RepL g [] ws) : ws = [] := by cases h; rfl
theorem RepL.inv1 {g : Env} {a : V} {ws : List Value} (h : RepL g [a] ws) : ∃ v, ws = [v] ∧ Rep g a v := by
  obtain ⟨v, vs, rfl, h, t⟩ := h.inv
  rw [t.inv0]; exact ⟨v, rfl, h⟩
theorem RepL.inv2 {g : Env} {a b : V} {ws : List Value} (h : RepL g [a, b] ws) : ∃ v u, ws = [v, u] ∧ Rep g a v ∧ Rep g b u := by
  obtain ⟨v, vs, rfl, h1, t⟩ := h.inv
  obtain ⟨u, rfl, h2⟩ := t.inv1
  exact ⟨v, u, rfl, h1, h2⟩
theorem RepL.append {g : Env} : ∀ {as bs : List V} {vs ws : List Value}, RepL g as vs → RepL g bs ws → RepL g (as ++ bs) (vs ++ ws)
  | _, _, _, _, .nil, h => h
  | _, _, _, _, .cons h t, h' => .cons h (t.append h')
theorem RepL.get {g : Env} : ∀ {as : List V} {vs : List Value} {i : Nat} {a : V}, RepL g as vs → as[i]? = some a → ∃ v, vs[i]? = some v ∧ Rep g a v
  | _, _, i, a, .nil, h => by simp at h
  | _, _, 0, a, .cons h t, hi => by simp at hi; subst hi; exact ⟨_, rfl, h⟩
  | _, _, i + 1, a, .cons h t, hi => by simp at hi; obtain ⟨v, hv, h⟩ := t.get hi; exact ⟨v, by simpa using hv, h⟩
theorem RepL.of_get {g : Env} : ∀ {as : List V} {vs : List Value}, as.length = vs.length → (∀ (i : Nat) (a : V), as[i]? = some a → ∃ v, vs[i]? = some v ∧ Rep g a v) → RepL g as vs
  | [], [], _, _ => .nil
  | [], _ :: _, h, _ => by simp at h
  | _ :: _, [], h, _ => by simp at h
  | a :: as, v :: vs, h, hg => by
    refine .cons ?_ (RepL.of_get (by simpa using h) fun i u hi => ?_)
    · obtain ⟨u, hu, h⟩ := hg 0 a rfl; simp at hu; subst hu; exact h
    · obtain ⟨x, hx, h⟩ := hg (i + 1) u (by simpa using hi); exact ⟨x, by simpa using hx, h⟩
theorem RepL.take {g : Env} : ∀ {as : List V} {vs : List Value} (n : Nat), RepL g as vs → RepL g (as.take n) (vs.take n)
  | _, _, 0, _ => by simpa using RepL.nil
  | _, _, n + 1, .nil => by simpa using RepL.nil
  | _, _, n + 1, .cons h t => by simpa using RepL.cons h (t.take n)

/-! ### One cell -/
theorem Rep.one {g : Env} {v : V} {cv : Value} (h : Rep g v cv) (h1 : c1 v = true) : cv.oneCell' = true := by
  cases h <;> first | rfl | assumption | (simp [c1] at h1)
theorem cells_one {cv : Value} (h : cv.oneCell' = true) : cv.cells = #[cv] := Ev.cells_one h
/-- The cells of a value. -/
theorem cellsO_rep {g : Env} {v : V} {vs : List V} {cv : Value} (h : cellsO v = some vs) (hr : Rep g v cv) : RepL g vs cv.cells.toList ∧ ∀ c ∈ vs, c1 c = true := by
  unfold cellsO at h
  split at h
  · injection h with h; subst h
    cases hr with | agg h h1 => exact ⟨h, h1⟩
  · cases h
  · rename_i h1 h2
    injection h with h; subst h
    have hc : c1 v = true := by cases v <;> first | rfl | (exact absurd rfl (h1 _)) | (exact absurd rfl (h2 _))
    refine ⟨?_, by simpa using hc⟩
    rw [cells_one (hr.one hc)]
    exact .cons hr .nil
theorem RepL.ones {g : Env} : ∀ {vs : List V} {cvs : List Value}, RepL g vs cvs → (∀ c ∈ vs, c1 c = true) → ∀ u ∈ cvs, u.oneCell' = true
  | _, _, .nil, _, u, hu => by cases hu
  | _, _, .cons h t, h1, u, hu => by
    rcases List.mem_cons.1 hu with rfl | hu
    · exact h.one (h1 _ (by simp))
    · exact t.ones (fun c hc => h1 c (by simp [hc])) u hu

/-! ### Memory -/
/-- Entries of a map. -/
inductive EntL (g : Env) : List (V × V × Nat) → List MapEntry → Prop where
  | nil : EntL g [] []
  | cons {k v : V} {born : Nat} {e : MapEntry} {es : List (V × V × Nat)} {ces : List MapEntry} (hk : Rep g k e.key) (hv : Rep g v e.val) (hb : e.born = born) (t : EntL g es ces) : EntL g ((k, v, born) :: es) (e :: ces)
theorem EntL.mono {g g' : Env} (hs : Sub g g') : ∀ {es : List (V × V × Nat)} {ces : List MapEntry}, EntL g es ces → EntL g' es ces
  | _, _, .nil => .nil
  | _, _, .cons hk hv hb t => .cons (hk.mono hs) (hv.mono hs) hb (t.mono hs)
theorem EntL.length {g : Env} : ∀ {es : List (V × V × Nat)} {ces : List MapEntry}, EntL g es ces → es.length = ces.length
  | _, _, .nil => rfl
  | _, _, .cons _ _ _ t => by simp [t.length]

def BlkRep (g : Env) (h : Array Obj) (x : Lc) : Blk → Prop
  | .cells n ex c => ∃ cs ty fr, h[x.blk]? = some (.cells cs ty fr) ∧ cs.size = x.size ∧ openB fr cs.size ∧ x.base + n ≤ x.size ∧ (ex = true → x.base + n = x.size) ∧
      ∀ k v, c.get k = some v → k < n ∧ c1 v = true ∧ ∃ cv, cs[x.base + k]? = some cv ∧ Rep g v cv
  | .map es clock => ∃ ces, h[x.blk]? = some (.map ces clock) ∧ EntL g es ces.toList
  | .siter l pos => ∃ s, h[x.blk]? = some (.stringIter s pos) ∧ l = natsOf s ∧ x.base = 0
theorem BlkRep.ext {g g' : Env} (hs : Sub g g') {h h' : Array Obj} {x : Lc} (hh : h'[x.blk]? = h[x.blk]?) {b : Blk} (hb : BlkRep g h x b) : BlkRep g' h' x b := by
  cases b with
  | cells n ex c =>
    obtain ⟨cs, ty, fr, h1, h2, h3, h4, h5, h6⟩ := hb
    exact ⟨cs, ty, fr, hh.trans h1, h2, h3, h4, h5, fun k v hk => by obtain ⟨a, b, cv, hc, hr⟩ := h6 k v hk; exact ⟨a, b, cv, hc, hr.mono hs⟩⟩
  | map es clock =>
    obtain ⟨ces, h1, h2⟩ := hb
    exact ⟨ces, hh.trans h1, h2.mono hs⟩
  | siter l pos =>
    obtain ⟨s, h1, h2⟩ := hb
    exact ⟨s, hh.trans h1, h2⟩

structure RM (w0 : World) (g : Env) (M : Mm) (n : Nat) (w : World) : Prop where
  rep : ∀ id b, M.get id = some b → ∃ x, g id = some x ∧ BlkRep g w.heap x b
  inj : ∀ i j x y b c, M.get i = some b → M.get j = some c → g i = some x → g j = some y → x.blk = y.blk → i = j
  lt : ∀ id x, g id = some x → id < n ∧ w0.heap.size ≤ x.blk ∧ x.blk < w.heap.size
  size : w0.heap.size ≤ w.heap.size
  old : ∀ b, b < w0.heap.size → w.heap[b]? = w0.heap[b]?
  tape : w.tape = w0.tape
  os : w.os = w0.os
  output : w.output = w0.output
  top : g.top = n

/-- What may have become of the world. -/
structure Mv (g : Env) (M : Mm) (w : World) (g' : Env) (M' : Mm) (w' : World) : Prop where
  ext : Sub g g'
  size : w.heap.size ≤ w'.heap.size
  keep : ∀ b, b < w.heap.size → (∀ id x c, M.get id = some c → g id = some x → x.blk ≠ b) → w'.heap[b]? = w.heap[b]?
  img : ∀ id x c, M'.get id = some c → g' id = some x → x.blk < w.heap.size → ∃ id0 x0 c0, M.get id0 = some c0 ∧ g id0 = some x0 ∧ x0.blk = x.blk
  low : ∀ id, id < g.top → g' id = g id
  up : g.top ≤ g'.top
theorem Mv.refl (g : Env) (M : Mm) (w : World) : Mv g M w g M w := ⟨.refl g, Nat.le_refl _, fun _ _ _ => rfl, fun id x c h1 h2 _ => ⟨id, x, c, h1, h2, rfl⟩, fun _ _ => rfl, Nat.le_refl _⟩
theorem Mv.trans {g1 g2 g3 : Env} {M1 M2 M3 : Mm} {w1 w2 w3 : World} (h : Mv g1 M1 w1 g2 M2 w2) (h' : Mv g2 M2 w2 g3 M3 w3) : Mv g1 M1 w1 g3 M3 w3 where
  ext := h.ext.trans h'.ext
  size := Nat.le_trans h.size h'.size
  keep b hb hn := by
    rw [h'.keep b (Nat.lt_of_lt_of_le hb h.size) fun id x c h1 h2 e => ?_, h.keep b hb hn]
    obtain ⟨id0, x0, c0, h3, h4, h5⟩ := h.img id x c h1 h2 (by omega)
    exact hn id0 x0 c0 h3 h4 (by omega)
  img id x c h1 h2 hx := by
    obtain ⟨id1, x1, c1, h3, h4, h5⟩ := h'.img id x c h1 h2 (Nat.lt_of_lt_of_le hx h.size)
    obtain ⟨id0, x0, c0, h6, h7, h8⟩ := h.img id1 x1 c1 h3 h4 (by omega)
    exact ⟨id0, x0, c0, h6, h7, h8.trans h5⟩
  low id hid := (h'.low id (Nat.lt_of_lt_of_le hid h.up)).trans (h.low id hid)
  up := Nat.le_trans h.up h'.up
/-- The world may have drawn. -/
theorem RM.world {w0 : World} {g : Env} {M : Mm} {n : Nat} {w w' : World} (h : RM w0 g M n w) (h1 : w'.heap = w.heap) (h2 : w'.tape = w.tape) (h3 : w'.os = w.os) (h4 : w'.output = w.output) : RM w0 g M n w' :=
  ⟨by rw [h1]; exact h.rep, h.inj, by rw [h1]; exact h.lt, by rw [h1]; exact h.size, by rw [h1]; exact h.old, h2.trans h.tape, h3.trans h.os, h4.trans h.output, h.top⟩
theorem Mv.world (g : Env) (M : Mm) {w w' : World} (h1 : w'.heap = w.heap) : Mv g M w g M w' :=
  ⟨.refl g, by rw [h1]; exact Nat.le_refl _, fun _ _ _ => by rw [h1], fun id x c h1 h2 _ => ⟨id, x, c, h1, h2, rfl⟩, fun _ _ => rfl, Nat.le_refl _⟩

/-- Less memory. -/
theorem RM.drop {w0 : World} {g : Env} {M M' : Mm} {n : Nat} {w : World} (h : RM w0 g M n w) (hM : ∀ id c, M'.get id = some c → M.get id = some c) : RM w0 g M' n w :=
  ⟨fun id b hb => h.rep id b (hM id b hb), fun i j x y b c hi hj => h.inj i j x y b c (hM _ _ hi) (hM _ _ hj), h.lt, h.size, h.old, h.tape, h.os, h.output, h.top⟩

/-- One block written anew. -/
theorem RM.write {w0 : World} {g : Env} {M : Mm} {n : Nat} {w w' : World} (h : RM w0 g M n w) {id : Nat} {x : Lc} {b b' : Blk} (hb : M.get id = some b) (hg : g id = some x)
    (hk : ∀ k, k ≠ x.blk → w'.heap[k]? = w.heap[k]?) (hsz : w'.heap.size = w.heap.size) (hb' : BlkRep g w'.heap x b') (ht : w'.tape = w.tape) (ho : w'.os = w.os) (hu : w'.output = w.output) :
    RM w0 g (M.set id (some b')) n w' ∧ Mv g M w g (M.set id (some b')) w' := by
  have key : ∀ i c, (M.set id (some b')).get i = some c → (i = id ∧ c = b') ∨ (i ≠ id ∧ M.get i = some c) := fun i c hi => by
    rcases T.get_set hi with ⟨h1, h2⟩ | h
    · injection h2 with h2; exact .inl ⟨h1, h2.symm⟩
    · exact .inr h
  have dom : ∀ i c, (M.set id (some b')).get i = some c → ∃ c0, M.get i = some c0 := fun i c hi => by
    rcases key i c hi with ⟨rfl, _⟩ | ⟨_, h⟩
    · exact ⟨b, hb⟩
    · exact ⟨c, h⟩
  refine ⟨⟨fun i c hi => ?_, fun i j y z c d hi hj hy hz e => ?_, fun i y hy => ?_, by rw [hsz]; exact h.size, fun k hk' => ?_, ht.trans h.tape, ho.trans h.os, hu.trans h.output, h.top⟩, ⟨.refl g, by rw [hsz]; exact Nat.le_refl _, fun k hk' hn => hk k (fun e => hn id x b hb hg e.symm), fun i y c hi hy _ => ?_, fun _ _ => rfl, Nat.le_refl _⟩⟩
  · rcases key i c hi with ⟨rfl, rfl⟩ | ⟨hne, hi⟩
    · exact ⟨x, hg, hb'⟩
    · obtain ⟨y, hy, hr⟩ := h.rep i c hi
      exact ⟨y, hy, hr.ext (.refl g) (hk _ fun e => hne (h.inj i id y x c b hi hb hy hg e))⟩
  · obtain ⟨c0, hc⟩ := dom i c hi
    obtain ⟨d0, hd⟩ := dom j d hj
    exact h.inj i j y z c0 d0 hc hd hy hz e
  · rw [hsz]; exact h.lt i y hy
  · rw [hk k (by have := (h.lt id x hg).2.1; omega)]; exact h.old k hk'
  · obtain ⟨c0, hc⟩ := dom i c hi
    exact ⟨i, y, c0, hc, hy, rfl⟩

def updG (g : Env) (n : Nat) (x : Lc) : Env := ⟨fun i => if i = n then some x else g i, n + 1⟩
theorem updG_new {g : Env} {n : Nat} {x : Lc} : updG g n x n = some x := by simp [updG]
theorem updG_other {g : Env} {n i : Nat} {x : Lc} (h : i ≠ n) : updG g n x i = g i := by simp [updG, h]
theorem RM.sub {w0 : World} {g : Env} {M : Mm} {n : Nat} {w : World} (h : RM w0 g M n w) (x : Lc) : Sub g (updG g n x) := fun id y hy => by
  have := (h.lt id y hy).1
  rw [updG_other (by omega)]; exact hy

/-- A new object in the world, a new block of memory. -/
theorem RM.alloc {w0 : World} {g : Env} {M : Mm} {n : Nat} {w w1 : World} (h : RM w0 g M n w) (o : Obj) (hw : w1.heap = w.heap) (ht : w1.tape = w.tape) (ho : w1.os = w.os) (hu : w1.output = w.output) {b : Blk} {x : Lc} (hx : x.blk = w.heap.size)
    (hb : BlkRep (updG g n x) (w.heap.push o) x b) : RM w0 (updG g n x) (M.set n (some b)) (n + 1) (w1.alloc o) ∧ Mv g M w (updG g n x) (M.set n (some b)) (w1.alloc o) := by
  have hheap : (w1.alloc o).heap = w.heap.push o := by show w1.heap.push o = _; rw [hw]
  have hs := h.sub x
  have hn : ∀ c, M.get n = some c → False := fun c hc => by obtain ⟨y, hy, _⟩ := h.rep n c hc; have := (h.lt n y hy).1; omega
  have hgn : g n = none := by cases hg : g n with | none => rfl | some y => have := (h.lt n y hg).1; omega
  have key : ∀ i c, (M.set n (some b)).get i = some c → (i = n ∧ c = b) ∨ (i ≠ n ∧ M.get i = some c) := fun i c hi => by
    rcases T.get_set hi with ⟨h1, h2⟩ | h
    · injection h2 with h2; exact .inl ⟨h1, h2.symm⟩
    · exact .inr h
  have hlt : ∀ k, k < w.heap.size → (w1.alloc o).heap[k]? = w.heap[k]? := fun k hk => by rw [hheap, Array.getElem?_push_lt hk, Array.getElem?_eq_getElem hk]
  have gold : ∀ i y, i ≠ n → updG g n x i = some y → g i = some y := fun i y hi hy => by rw [updG_other hi] at hy; exact hy
  have gnew : ∀ y, updG g n x n = some y → y = x := fun y hy => by rw [updG_new] at hy; injection hy with hy; exact hy.symm
  refine ⟨⟨fun i c hi => ?_, fun i j y z c d hi hj hy hz e => ?_, fun i y hy => ?_, ?_, fun k hk => ?_, ht.trans h.tape, ho.trans h.os, hu.trans h.output, rfl⟩, ⟨hs, by rw [hheap]; simp, fun k hk _ => hlt k hk, fun i y c hi hy hyl => ?_, fun i hi => updG_other (by have := h.top; omega), by show g.top ≤ n + 1; have := h.top; omega⟩⟩
  · rcases key i c hi with ⟨rfl, rfl⟩ | ⟨hne, hi⟩
    · exact ⟨x, updG_new, by rw [hheap]; exact hb⟩
    · obtain ⟨y, hy, hr⟩ := h.rep i c hi
      exact ⟨y, hs i y hy, hr.ext hs (hlt _ (h.lt i y hy).2.2)⟩
  · rcases key i c hi with ⟨rfl, rfl⟩ | ⟨hne, hi⟩ <;> rcases key j d hj with ⟨rfl, rfl⟩ | ⟨hne', hj⟩
    · rfl
    · have := gnew y hy; subst this
      have := (h.lt j z (gold j z hne' hz)).2.2; omega
    · have := gnew z hz; subst this
      have := (h.lt i y (gold i y hne hy)).2.2; omega
    · exact h.inj i j y z c d hi hj (gold i y hne hy) (gold j z hne' hz) e
  · by_cases hi : i = n
    · subst hi
      have := gnew y hy; subst this
      have := h.size
      rw [hheap, hx]; simp; exact this
    · have := h.lt i y (gold i y hi hy)
      rw [hheap]; simp; omega
  · rw [hheap]; have := h.size; simp; omega
  · rw [hlt k (Nat.lt_of_lt_of_le hk h.size)]; exact h.old k hk
  · rcases key i c hi with ⟨rfl, rfl⟩ | ⟨hne, hi⟩
    · have := gnew y hy; subst this; omega
    · exact ⟨i, y, c, hi, gold i y hne hy, rfl⟩
end Go.Eb
