import Derived.Laws.MakeOwn
import Derived.Laws.IdiomStrings
import Derived.Lib.Bytealg
import Derived.Laws.Externs
import Derived.Orders
import Derived.Test.YtjmbfcodmmnbiaaDoorT2
set_option linter.unusedVariables false
set_option linter.unusedSimpArgs false
/-
The closed evaluator: what its values and its memory stand for.
-/
set_option linter.unusedVariables false
namespace Go.Eb
open Go.Ev (szT byT aggO offT fszT TK kindT elemK zok LK leavesT)
def openB (fr : Nat × Nat) (n : Nat) : Prop := ∀ k, k < n → ¬ (fr.1 ≤ k ∧ k < fr.2)

/-- Where a block of own memory lies: the world's block, the first cell, how many cells that block has. -/
structure Lc where
  blk : Nat
  base : Nat
  size : Nat
/-- Where blocks lie, by number; numbers from top on are free. -/
structure Env where
  f : Nat → Option Lc
  top : Nat
instance : CoeFun Env (fun _ => Nat → Option Lc) := ⟨Env.f⟩

def natsOf (s : ByteArray) : List Nat := s.data.toList.map (·.toNat)
def capIs (x : Lc) (off e cap : Nat) : Option Nat → Prop
  | some c => cap = c ∧ x.base + off + cap * e ≤ x.size
  | none => x.base + off + cap * e = x.size

mutual
inductive Rep (g : Env) : V → Value → Prop where
  | undef {cv : Value} (h : cv.oneCell' = true) : Rep g .undef cv
  | anyb (b : Bool) : Rep g .anyb (.bool b)
  | rng {k : IntKind} {lo hi n : Int} (h1 : lo ≤ n) (h2 : n ≤ hi) : Rep g (.rng k lo hi) (.int k n)
  | anys {lo hi : Nat} {s : ByteArray} (h1 : lo ≤ s.size) (h2 : s.size ≤ hi) (hs : s.size ≤ 140737488355328) : Rep g (.anys lo hi) (.string s)
  | bool (b : Bool) : Rep g (.bool b) (.bool b)
  | int (k : IntKind) (n : Int) : Rep g (.int k n) (.int k n)
  | str {s : ByteArray} {l : List Nat} (h : l = natsOf s) (hs : s.size ≤ 140737488355328) : Rep g (.str l) (.string s)
  | nilp : Rep g .nilp (.pointer none)
  | ptr {id off : Nat} {x : Lc} (hg : g id = some x) : Rep g (.ptr id off) (.pointer (some ⟨x.blk, x.base + off, none⟩))
  | glob (k : Nat) : Rep g (.glob k) (.pointer (some ⟨k, 0, none⟩))
  | nils : Rep g .nils (.slice none 0 0)
  | sl {id off e len cap : Nat} {lim : Option Nat} {x : Lc} {p : Addr} (hg : g id = some x) (he : 0 < e) (hl : len ≤ cap) (hp : 0 < cap → p = ⟨x.blk, x.base + off, none⟩) (hc : capIs x off e cap lim) :
      Rep g (.sl id off e len lim) (.slice (some p) len cap)
  | nilm : Rep g .nilm (.map none)
  | mp {id : Nat} {x : Lc} (hg : g id = some x) : Rep g (.mp id) (.map (some x.blk))
  | nilf : Rep g .nilf .nilFunc
  | clo {f : Nat} {cs : List V} {vs : Array Value} (h : RepL g cs vs.toList) : Rep g (.clo f cs) (.func (.func f) #[] vs)
  | nili : Rep g .nili .nilIface
  | ifc {t : Nat} {v : V} {cv : Value} (h : Rep g v cv) : Rep g (.ifc t v) (.iface t cv)
  | agg {cs : List V} {vs : Array Value} (h : RepL g cs vs.toList) (h1 : ∀ c ∈ cs, c1 c = true) : Rep g (.agg cs) (.agg vs)
  | tup {cs : List V} {vs : Array Value} (h : RepL g cs vs.toList) : Rep g (.tup cs) (.tuple vs)
inductive RepL (g : Env) : List V → List Value → Prop where
  | nil : RepL g [] []
  | cons {a : V} {v : Value} {as : List V} {vs : List Value} (h : Rep g a v) (t : RepL g as vs) : RepL g (a :: as) (v :: vs)
end

def Sub (g g' : Env) : Prop := ∀ id x, g id = some x → g' id = some x
theorem Sub.refl (g : Env) : Sub g g := fun _ _ h => h
theorem Sub.trans {g1 g2 g3 : Env} (h : Sub g1 g2) (h' : Sub g2 g3) : Sub g1 g3 := fun id x hx => h' id x (h id x hx)

theorem Rep.mono {g g' : Env} (hs : Sub g g') {v : V} {cv : Value} (h : Rep g v cv) : Rep g' v cv := by
  refine @Rep.rec g (fun v cv _ => Rep g' v cv) (fun vs cvs _ => RepL g' vs cvs) ?_ ?_ ?_ ?_ ?_ ?_ ?_ ?_ ?_ ?_ ?_ ?_ ?_ ?_ ?_ ?_ ?_ ?_ ?_ ?_ ?_ ?_ v cv h
  · intro cv h; exact .undef h
  · intro b; exact .anyb b
  · intro k lo hi n h1 h2; exact .rng h1 h2
  · intro lo hi s h1 h2 hs; exact .anys h1 h2 hs
  · intro b; exact .bool b
  · intro k n; exact .int k n
  · intro s l h hs; exact .str h hs
  · exact .nilp
  · intro id off x hg; exact .ptr (hs _ _ hg)
  · intro k; exact .glob k
  · exact .nils
  · intro id off e len cap lim x p hg he hl hp hc; exact .sl (hs _ _ hg) he hl hp hc
  · exact .nilm
  · intro id x hg; exact .mp (hs _ _ hg)
  · exact .nilf
  · intro f cs vs _ ih; exact .clo ih
  · exact .nili
  · intro t v cv _ ih; exact .ifc ih
  · intro cs vs _ h1 ih; exact .agg ih h1
  · intro cs vs _ ih; exact .tup ih
  · exact .nil
  · intro a v as vs _ _ ih1 ih2; exact .cons ih1 ih2
theorem RepL.mono {g g' : Env} (hs : Sub g g') : ∀ {vs : List V} {cvs : List Value}, RepL g vs cvs → RepL g' vs cvs
  | _, _, .nil => .nil
  | _, _, .cons h t => .cons (h.mono hs) (t.mono hs)

theorem RepL.length {g : Env} : ∀ {vs : List V} {cvs : List Value}, RepL g vs cvs → vs.length = cvs.length
  | _, _, .nil => rfl
  | _, _, .cons _ t => by simp [t.length]
theorem RepL.inv {g : Env} {a : V} {as : List V} {ws : List Value} (h : RepL g (a :: as) ws) : ∃ v vs, ws = v :: vs ∧ Rep g a v ∧ RepL g as vs := by
  cases h with | cons h t => exact ⟨_, _, rfl, h, t⟩
theorem RepL.inv0 {g : Env} {ws : List Value} (h : RepL g [] ws) : ws = [] := by cases h; rfl
theorem RepL.inv1 {g : Env} {a : V} {ws : List Value} (h : RepL g [a] ws) : ∃ v, ws = [v] ∧ Rep g a v := by
  obtain ⟨v, vs, rfl, h, t⟩ := h.inv
  rw [t.inv0]; exact ⟨v, rfl, h⟩
theorem RepL.inv2 {g : Env} {a b : V} {ws : List Value} (h : RepL g [a, b] ws) : ∃ v u, ws = [v, u] ∧ Rep g a v ∧ Rep g b u := by
  obtain ⟨v, vs, rfl, h1, t⟩ := h.inv
  obtain ⟨u, rfl, h2⟩ := t.inv1
  exact ⟨v, u, rfl, h1, h2⟩
theorem RepL.append {g : Env} : ∀ {as bs : List V} {vs ws : List Value}, RepL g as vs → RepL g bs ws → RepL g (as ++ bs) (vs ++ ws)
  | _, _, _, _, .nil, h => h
  | _, _, _, _, .cons h t, h' => .cons h (t.append h')
theorem RepL.get {g : Env} : ∀ {as : List V} {vs : List Value} {i : Nat} {a : V}, RepL g as vs → as[i]? = some a → ∃ v, vs[i]? = some v ∧ Rep g a v
  | _, _, i, a, .nil, h => by simp at h
  | _, _, 0, a, .cons h t, hi => by simp at hi; subst hi; exact ⟨_, rfl, h⟩
  | _, _, i + 1, a, .cons h t, hi => by simp at hi; obtain ⟨v, hv, h⟩ := t.get hi; exact ⟨v, by simpa using hv, h⟩
theorem RepL.of_get {g : Env} : ∀ {as : List V} {vs : List Value}, as.length = vs.length → (∀ (i : Nat) (a : V), as[i]? = some a → ∃ v, vs[i]? = some v ∧ Rep g a v) → RepL g as vs
  | [], [], _, _ => .nil
  | [], _ :: _, h, _ => by simp at h
  | _ :: _, [], h, _ => by simp at h
  | a :: as, v :: vs, h, hg => by
    refine .cons ?_ (RepL.of_get (by simpa using h) fun i u hi => ?_)
    · obtain ⟨u, hu, h⟩ := hg 0 a rfl; simp at hu; subst hu; exact h
    · obtain ⟨x, hx, h⟩ := hg (i + 1) u (by simpa using hi); exact ⟨x, by simpa using hx, h⟩
theorem RepL.take {g : Env} : ∀ {as : List V} {vs : List Value} (n : Nat), RepL g as vs → RepL g (as.take n) (vs.take n)
  | _, _, 0, _ => by simpa using RepL.nil
  | _, _, n + 1, .nil => by simpa using RepL.nil
  | _, _, n + 1, .cons h t => by simpa using RepL.cons h (t.take n)

/-! ### One cell -/
theorem Rep.one {g : Env} {v : V} {cv : Value} (h : Rep g v cv) (h1 : c1 v = true) : cv.oneCell' = true := by
  cases h <;> first | rfl | assumption | (simp [c1] at h1)
theorem cells_one {cv : Value} (h : cv.oneCell' = true) : cv.cells = #[cv] := Ev.cells_one h
/-- The cells of a value. -/
theorem cellsO_rep {g : Env} {v : V} {vs : List V} {cv : Value} (h : cellsO v = some vs) (hr : Rep g v cv) : RepL g vs cv.cells.toList ∧ ∀ c ∈ vs, c1 c = true := by
  unfold cellsO at h
  split at h
  · injection h with h; subst h
    cases hr with | agg h h1 => exact ⟨h, h1⟩
  · cases h
  · rename_i h1 h2
    injection h with h; subst h
    have hc : c1 v = true := by cases v <;> first | rfl | (exact absurd rfl (h1 _)) | (exact absurd rfl (h2 _))
    refine ⟨?_, by simpa using hc⟩
    rw [cells_one (hr.one hc)]
    exact .cons hr .nil
theorem RepL.ones {g : Env} : ∀ {vs : List V} {cvs : List Value}, RepL g vs cvs → (∀ c ∈ vs, c1 c = true) → ∀ u ∈ cvs, u.oneCell' = true
  | _, _, .nil, _, u, hu => by cases hu
  | _, _, .cons h t, h1, u, hu => by
    rcases List.mem_cons.1 hu with rfl | hu
    · exact h.one (h1 _ (by simp))
    · exact t.ones (fun c hc => h1 c (by simp [hc])) u hu

/-! ### Memory -/
/-- Entries of a map. -/
inductive EntL (g : Env) : List (V × V × Nat) → List MapEntry → Prop where
  | nil : EntL g [] []
  | cons {k v : V} {born : Nat} {e : MapEntry} {es : List (V × V × Nat)} {ces : List MapEntry} (hk : Rep g k e.key) (hv : Rep g v e.val) (hb : e.born = born) (t : EntL g es ces) : EntL g ((k, v, born) :: es) (e :: ces)
theorem EntL.mono {g g' : Env} (hs : Sub g g') : ∀ {es : List (V × V × Nat)} {ces : List MapEntry}, EntL g es ces → EntL g' es ces
  | _, _, .nil => .nil
  | _, _, .cons hk hv hb t => .cons (hk.mono hs) (hv.mono hs) hb (t.mono hs)
theorem EntL.length {g : Env} : ∀ {es : List (V × V × Nat)} {ces : List MapEntry}, EntL g es ces → es.length = ces.length
  | _, _, .nil => rfl
  | _, _, .cons _ _ _ t => by simp [t.length]

def BlkRep (g : Env) (h : Array Obj) (x : Lc) : Blk → Prop
  | .cells n ex c => ∃ cs ty fr, h[x.blk]? = some (.cells cs ty fr) ∧ cs.size = x.size ∧ openB fr cs.size ∧ x.base + n ≤ x.size ∧ (ex = true → x.base + n = x.size) ∧
      ∀ k v, c.get k = some v → k < n ∧ c1 v = true ∧ ∃ cv, cs[x.base + k]? = some cv ∧ Rep g v cv
  | .map es clock => ∃ ces, h[x.blk]? = some (.map ces clock) ∧ EntL g es ces.toList
  | .siter l pos => ∃ s, h[x.blk]? = some (.stringIter s pos) ∧ l = natsOf s ∧ x.base = 0
theorem BlkRep.ext {g g' : Env} (hs : Sub g g') {h h' : Array Obj} {x : Lc} (hh : h'[x.blk]? = h[x.blk]?) {b : Blk} (hb : BlkRep g h x b) : BlkRep g' h' x b := by
  cases b with
  | cells n ex c =>
    obtain ⟨cs, ty, fr, h1, h2, h3, h4, h5, h6⟩ := hb
    exact ⟨cs, ty, fr, hh.trans h1, h2, h3, h4, h5, fun k v hk => by obtain ⟨a, b, cv, hc, hr⟩ := h6 k v hk; exact ⟨a, b, cv, hc, hr.mono hs⟩⟩
  | map es clock =>
    obtain ⟨ces, h1, h2⟩ := hb
    exact ⟨ces, hh.trans h1, h2.mono hs⟩
  | siter l pos =>
    obtain ⟨s, h1, h2⟩ := hb
    exact ⟨s, hh.trans h1, h2⟩

structure RM (w0 : World) (g : Env) (M : Mm) (n : Nat) (w : World) : Prop where
  rep : ∀ id b, M.get id = some b → ∃ x, g id = some x ∧ BlkRep g w.heap x b
  inj : ∀ i j x y b c, M.get i = some b → M.get j = some c → g i = some x → g j = some y → x.blk = y.blk → i = j
  lt : ∀ id x, g id = some x → id < n ∧ w0.heap.size ≤ x.blk ∧ x.blk < w.heap.size
  size : w0.heap.size ≤ w.heap.size
  old : ∀ b, b < w0.heap.size → w.heap[b]? = w0.heap[b]?
  tape : w.tape = w0.tape
  os : w.os = w0.os
  output : w.output = w0.output
  top : g.top = n

/-- What may have become of the world. -/
structure Mv (g : Env) (M : Mm) (w : World) (g' : Env) (M' : Mm) (w' : World) : Prop where
  ext : Sub g g'
  size : w.heap.size ≤ w'.heap.size
  keep : ∀ b, b < w.heap.size → (∀ id x c, M.get id = some c → g id = some x → x.blk ≠ b) → w'.heap[b]? = w.heap[b]?
  img : ∀ id x c, M'.get id = some c → g' id = some x → x.blk < w.heap.size → ∃ id0 x0 c0, M.get id0 = some c0 ∧ g id0 = some x0 ∧ x0.blk = x.blk
  low : ∀ id, id < g.top → g' id = g id
  up : g.top ≤ g'.top
theorem Mv.refl (g : Env) (M : Mm) (w : World) : Mv g M w g M w := ⟨.refl g, Nat.le_refl _, fun _ _ _ => rfl, fun id x c h1 h2 _ => ⟨id, x, c, h1, h2, rfl⟩, fun _ _ => rfl, Nat.le_refl _⟩
theorem Mv.trans {g1 g2 g3 : Env} {M1 M2 M3 : Mm} {w1 w2 w3 : World} (h : Mv g1 M1 w1 g2 M2 w2) (h' : Mv g2 M2 w2 g3 M3 w3) : Mv g1 M1 w1 g3 M3 w3 where
  ext := h.ext.trans h'.ext
  size := Nat.le_trans h.size h'.size
  keep b hb hn := by
    rw [h'.keep b (Nat.lt_of_lt_of_le hb h.size) fun id x c h1 h2 e => ?_, h.keep b hb hn]
    obtain ⟨id0, x0, c0, h3, h4, h5⟩ := h.img id x c h1 h2 (by omega)
    exact hn id0 x0 c0 h3 h4 (by omega)
  img id x c h1 h2 hx := by
    obtain ⟨id1, x1, c1, h3, h4, h5⟩ := h'.img id x c h1 h2 (Nat.lt_of_lt_of_le hx h.size)
    obtain ⟨id0, x0, c0, h6, h7, h8⟩ := h.img id1 x1 c1 h3 h4 (by omega)
    exact ⟨id0, x0, c0, h6, h7, h8.trans h5⟩
  low id hid := (h'.low id (Nat.lt_of_lt_of_le hid h.up)).trans (h.low id hid)
  up := Nat.le_trans h.up h'.up
/-- The world may have drawn. -/
theorem RM.world {w0 : World} {g : Env} {M : Mm} {n : Nat} {w w' : World} (h : RM w0 g M n w) (h1 : w'.heap = w.heap) (h2 : w'.tape = w.tape) (h3 : w'.os = w.os) (h4 : w'.output = w.output) : RM w0 g M n w' :=
  ⟨by rw [h1]; exact h.rep, h.inj, by rw [h1]; exact h.lt, by rw [h1]; exact h.size, by rw [h1]; exact h.old, h2.trans h.tape, h3.trans h.os, h4.trans h.output, h.top⟩
theorem Mv.world (g : Env) (M : Mm) {w w' : World} (h1 : w'.heap = w.heap) : Mv g M w g M w' :=
  ⟨.refl g, by rw [h1]; exact Nat.le_refl _, fun _ _ _ => by rw [h1], fun id x c h1 h2 _ => ⟨id, x, c, h1, h2, rfl⟩, fun _ _ => rfl, Nat.le_refl _⟩

/-- Less memory. -/
theorem RM.drop {w0 : World} {g : Env} {M M' : Mm} {n : Nat} {w : World} (h : RM w0 g M n w) (hM : ∀ id c, M'.get id = some c → M.get id = some c) : RM w0 g M' n w :=
  ⟨fun id b hb => h.rep id b (hM id b hb), fun i j x y b c hi hj => h.inj i j x y b c (hM _ _ hi) (hM _ _ hj), h.lt, h.size, h.old, h.tape, h.os, h.output, h.top⟩

/-- One block written anew. -/
theorem RM.write {w0 : World} {g : Env} {M : Mm} {n : Nat} {w w' : World} (h : RM w0 g M n w) {id : Nat} {x : Lc} {b b' : Blk} (hb : M.get id = some b) (hg : g id = some x)
    (hk : ∀ k, k ≠ x.blk → w'.heap[k]? = w.heap[k]?) (hsz : w'.heap.size = w.heap.size) (hb' : BlkRep g w'.heap x b') (ht : w'.tape = w.tape) (ho : w'.os = w.os) (hu : w'.output = w.output) :
    RM w0 g (M.set id (some b')) n w' ∧ Mv g M w g (M.set id (some b')) w' := by
  have key : ∀ i c, (M.set id (some b')).get i = some c → (i = id ∧ c = b') ∨ (i ≠ id ∧ M.get i = some c) := fun i c hi => by
    rcases T.get_set hi with ⟨h1, h2⟩ | h
    · injection h2 with h2; exact .inl ⟨h1, h2.symm⟩
    · exact .inr h
  have dom : ∀ i c, (M.set id (some b')).get i = some c → ∃ c0, M.get i = some c0 := fun i c hi => by
    rcases key i c hi with ⟨rfl, _⟩ | ⟨_, h⟩
    · exact ⟨b, hb⟩
    · exact ⟨c, h⟩
  refine ⟨⟨fun i c hi => ?_, fun i j y z c d hi hj hy hz e => ?_, fun i y hy => ?_, by rw [hsz]; exact h.size, fun k hk' => ?_, ht.trans h.tape, ho.trans h.os, hu.trans h.output, h.top⟩, ⟨.refl g, by rw [hsz]; exact Nat.le_refl _, fun k hk' hn => hk k (fun e => hn id x b hb hg e.symm), fun i y c hi hy _ => ?_, fun _ _ => rfl, Nat.le_refl _⟩⟩
  · rcases key i c hi with ⟨rfl, rfl⟩ | ⟨hne, hi⟩
    · exact ⟨x, hg, hb'⟩
    · obtain ⟨y, hy, hr⟩ := h.rep i c hi
      exact ⟨y, hy, hr.ext (.refl g) (hk _ fun e => hne (h.inj i id y x c b hi hb hy hg e))⟩
  · obtain ⟨c0, hc⟩ := dom i c hi
    obtain ⟨d0, hd⟩ := dom j d hj
    exact h.inj i j y z c0 d0 hc hd hy hz e
  · rw [hsz]; exact h.lt i y hy
  · rw [hk k (by have := (h.lt id x hg).2.1; omega)]; exact h.old k hk'
  · obtain ⟨c0, hc⟩ := dom i c hi
    exact ⟨i, y, c0, hc, hy, rfl⟩

def updG (g : Env) (n : Nat) (x : Lc) : Env := ⟨fun i => if i = n then some x else g i, n + 1⟩
theorem updG_new {g : Env} {n : Nat} {x : Lc} : updG g n x n = some x := by simp [updG]
theorem updG_other {g : Env} {n i : Nat} {x : Lc} (h : i ≠ n) : updG g n x i = g i := by simp [updG, h]
theorem RM.sub {w0 : World} {g : Env} {M : Mm} {n : Nat} {w : World} (h : RM w0 g M n w) (x : Lc) : Sub g (updG g n x) := fun id y hy => by
  have := (h.lt id y hy).1
  rw [updG_other (by omega)]; exact hy

/-- A new object in the world, a new block of memory. -/
theorem RM.alloc {w0 : World} {g : Env} {M : Mm} {n : Nat} {w w1 : World} (h : RM w0 g M n w) (o : Obj) (hw : w1.heap = w.heap) (ht : w1.tape = w.tape) (ho : w1.os = w.os) (hu : w1.output = w.output) {b : Blk} {x : Lc} (hx : x.blk = w.heap.size)
    (hb : BlkRep (updG g n x) (w.heap.push o) x b) : RM w0 (updG g n x) (M.set n (some b)) (n + 1) (w1.alloc o) ∧ Mv g M w (updG g n x) (M.set n (some b)) (w1.alloc o) := by
  have hheap : (w1.alloc o).heap = w.heap.push o := by show w1.heap.push o = _; rw [hw]
  have hs := h.sub x
  have hn : ∀ c, M.get n = some c → False := fun c hc => by obtain ⟨y, hy, _⟩ := h.rep n c hc; have := (h.lt n y hy).1; omega
  have hgn : g n = none := by cases hg : g n with | none => rfl | some y => have := (h.lt n y hg).1; omega
  have key : ∀ i c, (M.set n (some b)).get i = some c → (i = n ∧ c = b) ∨ (i ≠ n ∧ M.get i = some c) := fun i c hi => by
    rcases T.get_set hi with ⟨h1, h2⟩ | h
    · injection h2 with h2; exact .inl ⟨h1, h2.symm⟩
    · exact .inr h
  have hlt : ∀ k, k < w.heap.size → (w1.alloc o).heap[k]? = w.heap[k]? := fun k hk => by rw [hheap, Array.getElem?_push_lt hk, Array.getElem?_eq_getElem hk]
  have gold : ∀ i y, i ≠ n → updG g n x i = some y → g i = some y := fun i y hi hy => by rw [updG_other hi] at hy; exact hy
  have gnew : ∀ y, updG g n x n = some y → y = x := fun y hy => by rw [updG_new] at hy; injection hy with hy; exact hy.symm
  refine ⟨⟨fun i c hi => ?_, fun i j y z c d hi hj hy hz e => ?_, fun i y hy => ?_, ?_, fun k hk => ?_, ht.trans h.tape, ho.trans h.os, hu.trans h.output, rfl⟩, ⟨hs, by rw [hheap]; simp, fun k hk _ => hlt k hk, fun i y c hi hy hyl => ?_, fun i hi => updG_other (by have := h.top; omega), by show g.top ≤ n + 1; have := h.top; omega⟩⟩
  · rcases key i c hi with ⟨rfl, rfl⟩ | ⟨hne, hi⟩
    · exact ⟨x, updG_new, by rw [hheap]; exact hb⟩
    · obtain ⟨y, hy, hr⟩ := h.rep i c hi
      exact ⟨y, hs i y hy, hr.ext hs (hlt _ (h.lt i y hy).2.2)⟩
  · rcases key i c hi with ⟨rfl, rfl⟩ | ⟨hne, hi⟩ <;> rcases key j d hj with ⟨rfl, rfl⟩ | ⟨hne', hj⟩
    · rfl
    · have := gnew y hy; subst this
      have := (h.lt j z (gold j z hne' hz)).2.2; omega
    · have := gnew z hz; subst this
      have := (h.lt i y (gold i y hne hy)).2.2; omega
    · exact h.inj i j y z c d hi hj (gold i y hne hy) (gold j z hne' hz) e
  · by_cases hi : i = n
    · subst hi
      have := gnew y hy; subst this
      have := h.size
      rw [hheap, hx]; simp; exact this
    · have := h.lt i y (gold i y hi hy)
      rw [hheap]; simp; omega
  · rw [hheap]; have := h.size; simp; omega
  · rw [hlt k (Nat.lt_of_lt_of_le hk h.size)]; exact h.old k hk
  · rcases key i c hi with ⟨rfl, rfl⟩ | ⟨hne, hi⟩
    · have := gnew y hy; subst this; omega
    · exact ⟨i, y, c, hi, gold i y hne hy, rfl⟩
end Go.Eb

/-
The closed evaluator: operations that leave the world alone.
-/
set_option linter.unusedVariables false
namespace Go.Eb
open Go.Ev (szT byT aggO offT fszT TK kindT elemK zok LK leavesT kind_slice kind_array kind_str kind_int run_sizeOf szT_info addr_add)
variable {A : Type} {P : Program} {w0 : World} {g : Env} {F : Fr} {M : Mm} {n m : Nat} {a : Act} {w : World} {K : V → Mm → Nat → Option A} {r : A}

structure RF (g : Env) (F : Fr) (m : Nat) (a : Act) : Prop where
  sz : m = a.tmps.size
  tmp : ∀ t v, F.get t = some v → Rep g v (a.tmps.getD t undef)
  defers : a.defers = []
  lt : ∀ t v, F.get t = some v → t < m

theorem RF.mono {g g' : Env} {F : Fr} {m : Nat} {a : Act} (h : RF g F m a) (hs : Sub g g') : RF g' F m a := ⟨h.sz, fun t v hv => (h.tmp t v hv).mono hs, h.defers, h.lt⟩
theorem RF.put {g : Env} {F : Fr} {m : Nat} {a : Act} (h : RF g F m a) {d : Nat} {v : V} {cv : Value} (hd : d < m) (hv : Rep g v cv) : RF g (F.set d (some v)) m (a.put (some d) cv) := by
  have hsz : d < a.tmps.size := by rw [← h.sz]; exact hd
  refine ⟨by simpa [Act.put] using h.sz, fun t u ht => ?_, h.defers, fun t u ht => ?_⟩
  · rcases T.get_set ht with ⟨rfl, e⟩ | ⟨hne, ht⟩
    · injection e with e; subst e
      simpa [Act.put, Array.getElem?_setIfInBounds, hsz] using hv
    · have := h.tmp t u ht
      have hne' : ¬ d = t := fun e => hne e.symm
      simpa [Act.put, Array.getElem?_setIfInBounds, hne'] using this
  · rcases T.get_set ht with ⟨rfl, e⟩ | ⟨hne, ht⟩
    · exact hd
    · exact h.lt t u ht

theorem size_list (s : ByteArray) : s.data.toList.length = s.size := by rw [Array.length_toList]; rfl
theorem ofV1_rep {c : Value} {v : V} (h : ofV1 c = some v) : Rep g v c := by
  unfold ofV1 at h
  split at h <;> try (injection h with h; subst h; constructor; done)
  · split at h
    · rename_i hb
      injection h with h; subst h
      exact .str rfl (by have := Nat.le_of_ble_eq_true hb; rwa [size_list] at this)
    · cases h
  · cases h
theorem ofV1_c1 {c : Value} {v : V} (h : ofV1 c = some v) : c1 v = true := by
  unfold ofV1 at h
  split at h <;> try (injection h with h; subst h; rfl)
  · split at h
    · injection h with h; subst h; rfl
    · cases h
  · cases h
theorem ofVL_rep : ∀ {cs : List Value} {vs : List V}, ofVL cs = some vs → RepL g vs cs ∧ ∀ v ∈ vs, c1 v = true
  | [], vs, h => by simp [ofVL] at h; subst h; exact ⟨.nil, by simp⟩
  | c :: cs, vs, h => by
    rw [ofVL] at h
    split at h
    · rename_i u hu
      split at h
      · rename_i us hus
        injection h with h; subst h
        obtain ⟨h1, h2⟩ := ofVL_rep hus
        exact ⟨.cons (ofV1_rep hu) h1, fun v hv => by rcases List.mem_cons.1 hv with rfl | hv; exact ofV1_c1 hu; exact h2 v hv⟩
      · cases h
    · cases h
theorem ofV_rep {c : Value} {v : V} (h : ofV c = some v) : Rep g v c := by
  unfold ofV at h
  split at h
  · split at h
    · rename_i us hus
      injection h with h; subst h
      obtain ⟨h1, h2⟩ := ofVL_rep hus
      exact .agg h1 h2
    · cases h
  · exact ofV1_rep h
theorem zeroV_rep {t : TypeId} {v : V} (h : zeroV P t = some v) : ∃ i z, P.info? t = some i ∧ i.zero = some z ∧ Rep g v z := by
  unfold zeroV at h
  split at h
  · rename_i z hz
    obtain ⟨i, hi, hz⟩ := Option.bind_eq_some_iff.1 hz
    exact ⟨i, z, hi, hz, ofV_rep h⟩
  · cases h

theorem RF.eval (h : RF g F m a) {x : Operand} {v : V} (hx : opnd F x = some v) : Rep g v (a.eval x) := by
  cases x with
  | tmp t => exact h.tmp t v hx
  | func f => simp only [opnd, Option.some.injEq] at hx; subst hx; exact .clo .nil
  | global k => simp only [opnd, Option.some.injEq] at hx; subst hx; exact .glob k
  | const c => exact ofV_rep hx
/-- Some operands stand for what is in the frame. -/
def EvR (g : Env) (F : Fr) (a : Act) (xs : List Operand) : Prop := ∀ x ∈ xs, ∀ v, opnd F x = some v → Rep g v (a.eval x)
theorem RF.ev (h : RF g F m a) (xs : List Operand) : EvR g F a xs := fun x _ v hv => h.eval hv
theorem EvR.sub {xs ys : List Operand} (h : EvR g F a xs) (hs : ∀ y ∈ ys, y ∈ xs) : EvR g F a ys := fun y hy => h y (hs y hy)
theorem EvR.evals : ∀ {xs : List Operand} {vs : List V}, EvR g F a xs → xs.mapM (opnd F) = some vs → RepL g vs (xs.map a.eval)
  | [], vs, h, hx => by simp at hx; subst hx; exact .nil
  | x :: xs, vs, h, hx => by
    simp only [List.mapM_cons, Option.bind_eq_bind, Option.bind_eq_some_iff, Option.pure_def, Option.some.injEq] at hx
    obtain ⟨v, hv, us, hus, rfl⟩ := hx
    exact .cons (h x (by simp) v hv) ((h.sub fun y hy => by simp [hy]).evals hus)

/-- What an operation came to. -/
def Did (w0 : World) (g : Env) (M : Mm) (w : World) (K : V → Mm → Nat → Option A) (r : A) (res : Result Value) : Prop :=
  ∃ v M' n' g' w' cv, K v M' n' = some r ∧ res = .ok cv w' ∧ Rep g' v cv ∧ RM w0 g' M' n' w' ∧ Mv g M w g' M' w'
/-- The same of an operation that leaves all as it is. -/
def DidS (w0 : World) (g : Env) (M : Mm) (n : Nat) (w : World) (K : V → Mm → Nat → Option A) (r : A) (res : Result Value) : Prop := ∃ v cv, K v M n = some r ∧ res = .ok cv w ∧ Rep g v cv ∧ RM w0 g M n w
theorem did_ok (hM : RM w0 g M n w) {v : V} {cv : Value} (h : K v M n = some r) (hv : Rep g v cv) : DidS w0 g M n w K r (.ok cv w) := ⟨v, cv, h, rfl, hv, hM⟩
theorem DidS.did {res : Result Value} (h : DidS w0 g M n w K r res) : Did w0 g M w K r res := by
  obtain ⟨v, cv, h1, h2, h3, h4⟩ := h
  exact ⟨v, M, n, g, w, cv, h1, h2, h3, h4, .refl g M w⟩

theorem pick_did (hM : RM w0 g M n w) {c x y : Operand} (hF : EvR g F a [c, x, y]) (h : pickB M n (opnd F c) (opnd F x) (opnd F y) K = some r) :
    DidS w0 g M n w K r ((do pure (if ← asBool (a.eval c) then a.eval x else a.eval y) : Sem Value).run P w) := by
  unfold pickB at h
  split at h
  · rename_i hc
    replace h := ob_some h; obtain ⟨v, hv, h⟩ := h
    have := hF c (by simp) _ hc
    generalize a.eval c = cc at this
    cases this
    simp only [asBool, Sem.run_bind, Sem.run_pure, Result.andThen_ok, if_true]
    exact did_ok hM h (hF x (by simp) _ hv)
  · rename_i hc
    replace h := ob_some h; obtain ⟨v, hv, h⟩ := h
    have := hF c (by simp) _ hc
    generalize a.eval c = cc at this
    cases this
    simp only [asBool, Sem.run_bind, Sem.run_pure, Result.andThen_ok, Bool.false_eq_true, if_false]
    exact did_ok hM h (hF y (by simp) _ hv)
  · cases h

theorem natsOf_inj {a b : ByteArray} (h : natsOf a = natsOf b) : a.toList = b.toList := by
  have h1 : a.data.toList = b.data.toList := by
    have : ∀ {l l' : List UInt8}, l.map (·.toNat) = l'.map (·.toNat) → l = l' := by
      intro l
      induction l with
      | nil => intro l' h; cases l' with | nil => rfl | cons _ _ => simp at h
      | cons x l ih =>
        intro l' h
        cases l' with
        | nil => simp at h
        | cons y l' => simp only [List.map_cons, List.cons.injEq] at h; rw [UInt8.toNat_inj.1 h.1, ih h.2]
    exact this h
  have h2 : a = b := by cases a; cases b; congr; exact Array.toList_inj.1 h1
  rw [h2]
theorem toList_data (s : ByteArray) : s.toList = s.data.toList := ByteArray.toList_eq s
theorem beq_nats (a b : ByteArray) : (a.toList == b.toList) = decide (natsOf a = natsOf b) := by
  rw [Bool.eq_iff_iff]
  simp only [beq_iff_eq, decide_eq_true_eq]
  exact ⟨fun h => by unfold natsOf; rw [← toList_data, ← toList_data, h], natsOf_inj⟩
theorem ltS_nats (a b : List UInt8) : Op.bytesLess a b = ltS (a.map (·.toNat)) (b.map (·.toNat)) := by
  induction a generalizing b with
  | nil => cases b <;> rfl
  | cons x a ih =>
    cases b with
    | nil => rfl
    | cons y b =>
      simp only [Op.bytesLess, List.map_cons, ltS, ih]
      congr 1
      congr 1
      rw [Bool.eq_iff_iff]
      simp [UInt8.toNat_inj]
theorem lt_nats (a b : ByteArray) : Op.bytesLess a.toList b.toList = ltS (natsOf a) (natsOf b) := by rw [toList_data, toList_data]; exact ltS_nats _ _
theorem natsOf_append (a b : ByteArray) : natsOf (a ++ b) = natsOf a ++ natsOf b := by unfold natsOf; simp
theorem natsOf_length (s : ByteArray) : (natsOf s).length = s.size := by unfold natsOf; rw [List.length_map, size_list]

theorem bitsO_run {op : BinOp} {k : IntKind} {x y z : Int} (h : bitsO op k x y = some z) : (Op.intBits op k x y).run P w = .ok (.int k (k.wrap z)) w := by
  unfold bitsO at h
  split at h <;> first | (injection h with h; subst h; simp [Op.intBits]; done) | cases h

theorem intB_did (hM : RM w0 g M n w) {op : BinOp} {t : TypeId} {k : IntKind} {x y : Int} (h : intB op k x y M n K = some r) (hs : op ≠ .shl ∧ op ≠ .shr) : DidS w0 g M n w K r ((binOp op t (.int k x) (.int k y)).run P w) := by
  unfold intB at h
  split at h
  · rw [kI_eq] at h
    exact (show (binOp .add t (.int k x) (.int k y)).run P w = .ok (.int k (k.wrap (x + y))) w by simp [binOp, Op.intArith]) ▸ did_ok hM h (.int _ _)
  · rw [kI_eq] at h
    exact (show (binOp .sub t (.int k x) (.int k y)).run P w = .ok (.int k (k.wrap (x - y))) w by simp [binOp, Op.intArith]) ▸ did_ok hM h (.int _ _)
  · rw [kI_eq] at h
    exact (show (binOp .mul t (.int k x) (.int k y)).run P w = .ok (.int k (k.wrap (x * y))) w by simp [binOp, Op.intArith]) ▸ did_ok hM h (.int _ _)
  · rw [kB_eq, eqI_eq] at h
    exact (show (binOp .eql t (.int k x) (.int k y)).run P w = .ok (.bool (decide (x = y))) w by simp [binOp, Op.intCmp, BEq.beq]) ▸ did_ok hM h (.bool _)
  · rw [kB_eq, eqI_eq] at h
    exact (show (binOp .neq t (.int k x) (.int k y)).run P w = .ok (.bool (!decide (x = y))) w by simp [binOp, Op.intCmp, bne, BEq.beq]) ▸ did_ok hM h (.bool _)
  · rw [kB_eq, leI_eq] at h
    exact (show (binOp .lss t (.int k x) (.int k y)).run P w = .ok (.bool (!decide (y ≤ x))) w by simp [binOp, Op.intCmp]; rw [Bool.eq_iff_iff]; simp) ▸ did_ok hM h (.bool _)
  · rw [kB_eq, leI_eq] at h
    exact (show (binOp .leq t (.int k x) (.int k y)).run P w = .ok (.bool (decide (x ≤ y))) w by simp [binOp, Op.intCmp]) ▸ did_ok hM h (.bool _)
  · rw [kB_eq, leI_eq] at h
    exact (show (binOp .gtr t (.int k x) (.int k y)).run P w = .ok (.bool (!decide (x ≤ y))) w by simp [binOp, Op.intCmp]; rw [Bool.eq_iff_iff]; simp) ▸ did_ok hM h (.bool _)
  · rw [kB_eq, leI_eq] at h
    exact (show (binOp .geq t (.int k x) (.int k y)).run P w = .ok (.bool (decide (y ≤ x))) w by simp [binOp, Op.intCmp]) ▸ did_ok hM h (.bool _)
  · replace h := bb_some h; obtain ⟨hz, h⟩ := h
    rw [eqI_eq] at hz
    have hz : ¬ y = 0 := by simpa using hz
    rw [kI_eq] at h
    exact (show (binOp .quo t (.int k x) (.int k y)).run P w = .ok (.int k (k.wrap (x.tdiv y))) w by simp [binOp, Op.intDiv, hz]) ▸ did_ok hM h (.int _ _)
  · replace h := bb_some h; obtain ⟨hz, h⟩ := h
    rw [eqI_eq] at hz
    have hz : ¬ y = 0 := by simpa using hz
    rw [forceI_eq] at h
    exact (show (binOp .rem t (.int k x) (.int k y)).run P w = .ok (.int k (x.tmod y)) w by simp [binOp, Op.intDiv, hz]) ▸ did_ok hM h (.int _ _)
  · replace h := ob_some h; obtain ⟨z, hz, h⟩ := h
    rw [kI_eq] at h
    have hb := bitsO_run (P := P) (w := w) hz
    have : (binOp op t (.int k x) (.int k y)).run P w = .ok (.int k (k.wrap z)) w := by
      cases op <;> first | (simp [bitsO] at hz; done) | (simpa [binOp] using hb)
    exact this ▸ did_ok hM h (.int _ _)

theorem guard_scalar {op : BinOp} {t : TypeId} {x y : Operand} {u v : Value} (h1 : u.oneCell' = true) (h2 : u ≠ .nilIface) : (eqGuard op t x y u v).run P w = .ok () w := Ev.guard_scalar h1 h2
theorem bin_val (hM : RM w0 g M n w) {op : BinOp} {t : TypeId} {ox oy : Operand} {cx cy : Value} (hg : (eqGuard op t ox oy cx cy).run P w = .ok () w) (hb : DidS w0 g M n w K r ((binOp op t cx cy).run P w)) :
    DidS w0 g M n w K r ((do eqGuard op t ox oy cx cy; binOp op t cx cy : Sem Value).run P w) := by
  simp only [Sem.run_bind, hg, Result.andThen_ok]
  exact hb

/-- Scalars as the other evaluator has them. -/
def toAV : Value → Ev.AV
  | .bool b => .bool b
  | .int k n => .int k n
  | .string s => .str s
  | _ => .undef
theorem eqLK_run {E : Ev.Env} : ∀ {lk : List LK} {xs ys : List V} {acc : Bool} {K : Bool → Option A} {vs us : List Value}, eqLK lk xs ys acc K = some r → RepL g xs vs → RepL g ys us →
    ∃ c, Ev.eqLK lk (vs.map toAV) (us.map toAV) = some c ∧ K (acc && c) = some r ∧ Ev.RepL E (vs.map toAV) vs [] ∧ Ev.RepL E (us.map toAV) us []
  | [], xs, ys, acc, K, vs, us, h, hx, hy => by
    cases xs with
    | cons _ _ => cases h
    | nil => cases ys with
      | cons _ _ => cases h
      | nil => cases hx; cases hy; have h : K acc = some r := h; exact ⟨true, rfl, by simpa using h, .nil, .nil⟩
  | k :: lk, xs, ys, acc, K, vs, us, h, hx, hy => by
    cases xs with
    | nil => cases h
    | cons x xs => cases ys with
      | nil => cases h
      | cons y ys =>
        obtain ⟨v, vs, rfl, hv, hvs⟩ := hx.inv
        obtain ⟨u, us, rfl, hu, hus⟩ := hy.inv
        have h : ob (eqK k x y) (fun c => match c with
          | true => eqLK lk xs ys acc K
          | false => eqLK lk xs ys false K) = some r := h
        replace h := ob_some h; obtain ⟨c, hc, h⟩ := h
        have hk : Ev.eqK k (toAV v) (toAV u) = some c ∧ Ev.Rep E (toAV v) v [] ∧ Ev.Rep E (toAV u) u [] := by
          unfold eqK at hc
          split at hc
          · cases hv; cases hu; injection hc with hc; subst hc; exact ⟨rfl, .bool _, .bool _⟩
          · cases hv; cases hu
            split at hc
            · rename_i e; subst e; injection hc with hc; subst hc; exact ⟨by simp [toAV, Ev.eqK, eqI_eq, BEq.beq], .int _ _, .int _ _⟩
            · cases hc
          · cases hv with | str h1 h2 => cases hu with | str h3 h4 =>
              injection hc with hc; subst hc; subst h1 h3
              exact ⟨by simp only [toAV, Ev.eqK]; rw [eqL_eq, beq_nats], .str _ h2, .str _ h4⟩
          · cases hc
        obtain ⟨hk1, hk2, hk3⟩ := hk
        have go : ∀ {acc' : Bool}, eqLK lk xs ys acc' K = some r → acc' = (acc && c) →
            ∃ c, Ev.eqLK (k :: lk) ((v :: vs).map toAV) ((u :: us).map toAV) = some c ∧ K (acc && c) = some r ∧ Ev.RepL E ((v :: vs).map toAV) (v :: vs) [] ∧ Ev.RepL E ((u :: us).map toAV) (u :: us) [] := fun {acc'} h hacc => by
          obtain ⟨d, h1, h2, h3, h4⟩ := eqLK_run (E := E) h hvs hus
          refine ⟨c && d, by simp [Ev.eqLK, hk1, h1], ?_, .cons (l := []) (m := []) hk2 h3, .cons (l := []) (m := []) hk3 h4⟩
          rw [hacc, Bool.and_assoc] at h2; exact h2
        cases c with
        | true => exact go h (by simp)
        | false => exact go h (by simp)

theorem sl_eq1 (d : Nat) {t e : TypeId} (ht : P.underlying t = some (.slice e)) {l0 c0 l c : Nat} (b : Option Addr) : (Op.equalIn (d + 1) t (.slice none l0 c0) (.slice b l c)).run P w = .ok b.isNone w := by
  simp only [Op.equalIn, Sem.run_bind, run_underlying ht, Result.andThen_ok, Sem.run_pure]
theorem sl_eq2 (d : Nat) {t e : TypeId} (ht : P.underlying t = some (.slice e)) {l0 c0 l c : Nat} (p : Addr) : (Op.equalIn (d + 1) t (.slice (some p) l0 c0) (.slice none l c)).run P w = .ok false w := by
  simp only [Op.equalIn, Sem.run_bind, run_underlying ht, Result.andThen_ok, Sem.run_pure]
theorem ptr_eq3 (d : Nat) {t e : TypeId} (ht : P.underlying t = some (.pointer e)) {b p q : Nat} {ie : TypeInfo} (hie : P.info? e = some ie) (hz : ie.size ≠ 0) : (Op.equalIn (d + 1) t (.pointer (some ⟨b, p, none⟩)) (.pointer (some ⟨b, q, none⟩))).run P w = .ok (decide (p = q)) w := by
  simp only [Op.equalIn, Sem.run_bind, run_underlying ht, Result.andThen_ok, run_sizeOf hie, if_pos hz, sameAddr, beq_self_eq_true, if_true, Sem.run_pure]
  congr 1
  rw [Bool.eq_iff_iff]
  simp
theorem mp_eq1 (d : Nat) {t k e : TypeId} (ht : P.underlying t = some (.map k e)) (b : Option Nat) : (Op.equalIn (d + 1) t (.map none) (.map b)).run P w = .ok b.isNone w := by
  simp only [Op.equalIn, Sem.run_bind, run_underlying ht, Result.andThen_ok, Sem.run_pure]
theorem mp_eq2 (d : Nat) {t k e : TypeId} (ht : P.underlying t = some (.map k e)) (p : Nat) : (Op.equalIn (d + 1) t (.map (some p)) (.map none)).run P w = .ok false w := by
  simp only [Op.equalIn, Sem.run_bind, run_underlying ht, Result.andThen_ok, Sem.run_pure]
/-- == at a type. -/
theorem eqT_run {t : TypeId} {x y : V} {cx cy : Value} {K : Bool → Option A} (h : eqT P t x y K = some r) (hx : Rep g x cx) (hy : Rep g y cy) :
    ∃ b, K b = some r ∧ (Op.equal t cx cy).run P w = .ok b w ∧ (∀ op ox oy, (eqGuard op t ox oy cx cy).run P w = .ok () w) ∧ (∀ k n, cx ≠ .int k n) ∧ (∀ s, cx ≠ .string s) ∧ (∀ k b, cx ≠ .float k b) ∧ (∀ k a b, cx ≠ .complex k a b) := by
  have und : ∀ {d : TypeDesc}, P.underlying t = some d → (underlying t).run P w = .ok d w := fun h => run_underlying h w
  unfold eqT at h
  split at h
  · rename_i hk
    have hu : P.underlying t = some .bool := by unfold kindT at hk; split at hk <;> first | assumption | cases hk
    cases hx; cases hy
    exact ⟨_, h, by simp [Op.equal, Op.maxDepth, run_equalIn_bool' (P := P) w _ t _ _ hu], fun _ _ _ => guard_scalar rfl (by simp), by simp, by simp, by simp, by simp⟩
  · rename_i e hk
    have hu : P.underlying t = some (.pointer e) := by unfold kindT at hk; split at hk <;> first | (injection hk with hk; subst hk; assumption) | cases hk
    cases hx; cases hy
    exact ⟨_, h, by rw [Op.equal, Op.maxDepth, Ev.ptr_nil1 9999 hu]; rfl, fun _ _ _ => guard_scalar rfl (by simp), by simp, by simp, by simp, by simp⟩
  · rename_i e _ _ hk
    have hu : P.underlying t = some (.pointer e) := by unfold kindT at hk; split at hk <;> first | (injection hk with hk; subst hk; assumption) | cases hk
    cases hx; cases hy
    exact ⟨_, h, by rw [Op.equal, Op.maxDepth, Ev.ptr_nil1 9999 hu]; rfl, fun _ _ _ => guard_scalar rfl (by simp), by simp, by simp, by simp, by simp⟩
  · rename_i e _ _ hk
    have hu : P.underlying t = some (.pointer e) := by unfold kindT at hk; split at hk <;> first | (injection hk with hk; subst hk; assumption) | cases hk
    cases hx; cases hy
    exact ⟨_, h, by rw [Op.equal, Op.maxDepth, Ev.ptr_nil2 9999 hu], fun _ _ _ => guard_scalar rfl (by simp), by simp, by simp, by simp, by simp⟩
  · rename_i e i p j q hk
    have hu : P.underlying t = some (.pointer e) := by unfold kindT at hk; split at hk <;> first | (injection hk with hk; subst hk; assumption) | cases hk
    replace h := bb_some h; obtain ⟨hb, h2⟩ := h
    simp only [Bool.and_eq_true, Nat.beq_eq] at hb
    obtain ⟨rfl, hz⟩ := hb
    have hz : 0 < szT P e := by simpa [Nat.blt_eq] using hz
    obtain ⟨ie, hie⟩ := szT_info hz
    have hz' : ie.size ≠ 0 := by simp [szT, hie] at hz; omega
    cases hx with | @ptr _ _ x hgx => cases hy with | @ptr _ _ y hgy =>
      obtain rfl : x = y := by rw [hgx] at hgy; injection hgy
      refine ⟨_, h2, ?_, fun _ _ _ => guard_scalar rfl (by simp), by simp, by simp, by simp, by simp⟩
      rw [Op.equal, Op.maxDepth, ptr_eq3 9999 hu hie hz', nbeq]
      congr 1
      rw [Bool.eq_iff_iff]
      simp
  · rename_i e hk
    have hu := kind_slice hk
    cases hx; cases hy
    exact ⟨_, h, by rw [Op.equal, Op.maxDepth, sl_eq1 9999 hu]; rfl, fun _ _ _ => guard_scalar rfl (by simp), by simp, by simp, by simp, by simp⟩
  · rename_i e _ _ _ _ _ hk
    have hu := kind_slice hk
    cases hx; cases hy
    exact ⟨_, h, by rw [Op.equal, Op.maxDepth, sl_eq1 9999 hu]; rfl, fun _ _ _ => guard_scalar rfl (by simp), by simp, by simp, by simp, by simp⟩
  · rename_i e _ _ _ _ _ hk
    have hu := kind_slice hk
    cases hx; cases hy
    exact ⟨_, h, by rw [Op.equal, Op.maxDepth, sl_eq2 9999 hu], fun _ _ _ => guard_scalar rfl (by simp), by simp, by simp, by simp, by simp⟩
  · rename_i k e hk
    have hu : P.underlying t = some (.map k e) := by unfold kindT at hk; split at hk <;> first | (injection hk with hk hk'; subst hk hk'; assumption) | cases hk
    cases hx; cases hy
    exact ⟨_, h, by rw [Op.equal, Op.maxDepth, mp_eq1 9999 hu]; rfl, fun _ _ _ => guard_scalar rfl (by simp), by simp, by simp, by simp, by simp⟩
  · rename_i k e _ hk
    have hu : P.underlying t = some (.map k e) := by unfold kindT at hk; split at hk <;> first | (injection hk with hk hk'; subst hk hk'; assumption) | cases hk
    cases hx; cases hy
    exact ⟨_, h, by rw [Op.equal, Op.maxDepth, mp_eq1 9999 hu]; rfl, fun _ _ _ => guard_scalar rfl (by simp), by simp, by simp, by simp, by simp⟩
  · rename_i k e _ hk
    have hu : P.underlying t = some (.map k e) := by unfold kindT at hk; split at hk <;> first | (injection hk with hk hk'; subst hk hk'; assumption) | cases hk
    cases hx; cases hy
    exact ⟨_, h, by rw [Op.equal, Op.maxDepth, mp_eq2 9999 hu], fun _ _ _ => guard_scalar rfl (by simp), by simp, by simp, by simp, by simp⟩
  · replace h := ob_some h; obtain ⟨lk, hlk, h⟩ := h
    cases hx with | @agg _ vs hvs _ => cases hy with | @agg _ us hus _ =>
      obtain ⟨c, h1, h2, h3, h4⟩ := eqLK_run (E := ⟨#[], fun _ _ => False, fun _ => none⟩) h hvs hus
      obtain ⟨vs', us', e1, e2, he, hg⟩ := Ev.bin_agg (P := P) (w := w) (.agg h3) (.agg h4) hlk h1
      injection e1 with e1; injection e2 with e2
      subst e1 e2
      have hg' : (Program.eqGuardType P P.depth t) = false := hg
      exact ⟨c, by simpa using h2, he, fun op ox oy => run_eqGuard_agg w op t ox oy vs us hg', by simp, by simp, by simp, by simp⟩
  · cases h
end Go.Eb

/-
The closed evaluator: operators, addresses, parts.
-/
set_option linter.unusedVariables false
set_option linter.unusedSimpArgs false
namespace Go.Eb
open Go.Ev (szT byT aggO offT fszT TK kindT elemK zok LK leavesT kind_slice kind_array kind_str kind_int run_sizeOf szT_info addr_add)
variable {A : Type} {P : Program} {w0 : World} {g : Env} {F : Fr} {M : Mm} {n m : Nat} {a : Act} {w : World} {K : V → Mm → Nat → Option A} {r : A}

theorem kind_map {t k e : TypeId} (h : kindT P t = .map k e) : P.underlying t = some (.map k e) := by
  unfold kindT at h
  split at h <;> first | (injection h with h h'; subst h h'; assumption) | cases h

theorem shiftB_did (hM : RM w0 g M n w) {op : BinOp} {t : TypeId} {j k : IntKind} {x y : Int} (h : shiftB op j x y M n K = some r) : DidS w0 g M n w K r ((binOp op t (.int j x) (.int k y)).run P w) := by
  unfold shiftB at h
  split at h
  · replace h := bb_some h; obtain ⟨hz, h⟩ := h
    rw [leI_eq] at hz
    have hz : 0 ≤ y := by simpa using hz
    rw [kI_eq] at h
    exact (show (binOp .shl t (.int j x) (.int k y)).run P w = .ok (.int j (j.wrap (x * 2 ^ (min y.toNat j.bits)))) w by simp [binOp, Op.shift, Int.not_lt.2 hz]) ▸ did_ok hM h (.int _ _)
  · replace h := bb_some h; obtain ⟨hz, h⟩ := h
    rw [leI_eq] at hz
    have hz : 0 ≤ y := by simpa using hz
    rw [forceI_eq] at h
    exact (show (binOp .shr t (.int j x) (.int k y)).run P w = .ok (.int j (x.fdiv (2 ^ (min y.toNat j.bits)))) w by simp [binOp, Op.shift, Int.not_lt.2 hz]) ▸ did_ok hM h (.int _ _)
  · cases h

theorem strB_did (hM : RM w0 g M n w) {op : BinOp} {t : TypeId} {x y : ByteArray} (h : strB op (natsOf x) (natsOf y) M n K = some r) : DidS w0 g M n w K r ((binOp op t (.string x) (.string y)).run P w) := by
  unfold strB at h
  have he : (x.toList == y.toList) = eqL (natsOf x) (natsOf y) := by rw [beq_nats, eqL_eq]
  have hl : Op.bytesLess x.toList y.toList = ltL (natsOf x) (natsOf y) := by rw [lt_nats, ltL_eq]
  split at h
  · replace h := bb_some h; obtain ⟨hz, h⟩ := h
    have hz := Nat.le_of_ble_eq_true hz
    rw [natsOf_length, natsOf_length] at hz
    exact (show (binOp .add t (.string x) (.string y)).run P w = .ok (.string (x ++ y)) w by simp only [binOp, Op.stringOp, if_neg (Ev.two64 _ _ hz), Sem.run_pure]) ▸ did_ok hM h (.str (natsOf_append x y).symm (by rw [ByteArray.size_append]; exact hz))
  · rw [kB_eq] at h
    exact (show (binOp .eql t (.string x) (.string y)).run P w = .ok (.bool (eqL (natsOf x) (natsOf y))) w by simp only [binOp, Op.stringOp, he, hl, Sem.run_pure]) ▸ did_ok hM h (.bool _)
  · rw [kB_eq] at h
    exact (show (binOp .neq t (.string x) (.string y)).run P w = .ok (.bool (!eqL (natsOf x) (natsOf y))) w by simp only [binOp, Op.stringOp, he, hl, Sem.run_pure]) ▸ did_ok hM h (.bool _)
  · rw [kB_eq] at h
    exact (show (binOp .lss t (.string x) (.string y)).run P w = .ok (.bool (ltL (natsOf x) (natsOf y))) w by simp only [binOp, Op.stringOp, he, hl, Sem.run_pure]) ▸ did_ok hM h (.bool _)
  · rw [kB_eq] at h
    exact (show (binOp .leq t (.string x) (.string y)).run P w = .ok (.bool (ltL (natsOf x) (natsOf y) || eqL (natsOf x) (natsOf y))) w by simp only [binOp, Op.stringOp, he, hl, Sem.run_pure]) ▸ did_ok hM h (.bool _)
  · rw [kB_eq] at h
    exact (show (binOp .gtr t (.string x) (.string y)).run P w = .ok (.bool (!(ltL (natsOf x) (natsOf y) || eqL (natsOf x) (natsOf y)))) w by simp only [binOp, Op.stringOp, he, hl, Sem.run_pure]) ▸ did_ok hM h (.bool _)
  · rw [kB_eq] at h
    exact (show (binOp .geq t (.string x) (.string y)).run P w = .ok (.bool (!ltL (natsOf x) (natsOf y))) w by simp only [binOp, Op.stringOp, he, hl, Sem.run_pure]) ▸ did_ok hM h (.bool _)
  · cases h

theorem binOp_eql {t : TypeId} {cx cy : Value} {b : Bool} (he : (Op.equal t cx cy).run P w = .ok b w) (h1 : ∀ k n, cx ≠ .int k n) (h2 : ∀ s, cx ≠ .string s) (h3 : ∀ k b, cx ≠ .float k b) (h4 : ∀ k a b, cx ≠ .complex k a b) :
    (binOp .eql t cx cy).run P w = .ok (.bool b) w ∧ (binOp .neq t cx cy).run P w = .ok (.bool (!b)) w := by
  have e1 : binOp .eql t cx cy = (do pure (.bool (← Op.equal t cx cy)) : Sem Value) := by
    cases cx <;> first | rfl | exact absurd rfl (h1 _ _) | exact absurd rfl (h2 _) | exact absurd rfl (h3 _ _) | exact absurd rfl (h4 _ _ _)
  have e2 : binOp .neq t cx cy = (do pure (.bool (!(← Op.equal t cx cy))) : Sem Value) := by
    cases cx <;> first | rfl | exact absurd rfl (h1 _ _) | exact absurd rfl (h2 _) | exact absurd rfl (h3 _ _) | exact absurd rfl (h4 _ _ _)
  rw [e1, e2]
  simp only [Sem.run_bind, he, Result.andThen_ok, Sem.run_pure, and_self]

theorem dec2_rep {t f b : Bool} (ht : t = true → b = true) (hf : f = true → b = false) : Rep g (dec2 t f) (.bool b) := by
  unfold dec2
  split
  · rw [ht rfl]; exact .bool _
  · split
    · rw [hf rfl]; exact .bool _
    · exact .anyb _
theorem cmpR_run {op : BinOp} {t : TypeId} {k : IntKind} {x x' y y' p q : Int} {v : V} (h : cmpR op x x' y y' = some v) (h1 : x ≤ p) (h2 : p ≤ x') (h3 : y ≤ q) (h4 : q ≤ y') : ∃ b, (binOp op t (.int k p) (.int k q)).run P w = .ok (.bool b) w ∧ Rep g v (.bool b) := by
  unfold cmpR at h
  simp only [leI_eq] at h
  split at h
  · injection h with h; subst h
    refine ⟨decide (p < q), by simp [binOp, Op.intCmp], dec2_rep (fun h => ?_) fun h => ?_⟩ <;> simp at h ⊢ <;> omega
  · injection h with h; subst h
    refine ⟨decide (p ≤ q), by simp [binOp, Op.intCmp], dec2_rep (fun h => ?_) fun h => ?_⟩ <;> simp at h ⊢ <;> omega
  · injection h with h; subst h
    refine ⟨decide (q < p), by simp [binOp, Op.intCmp], dec2_rep (fun h => ?_) fun h => ?_⟩ <;> simp at h ⊢ <;> omega
  · injection h with h; subst h
    refine ⟨decide (q ≤ p), by simp [binOp, Op.intCmp], dec2_rep (fun h => ?_) fun h => ?_⟩ <;> simp at h ⊢ <;> omega
  · injection h with h; subst h
    refine ⟨decide (p = q), by simp [binOp, Op.intCmp, BEq.beq], dec2_rep (fun h => by cases h) fun h => ?_⟩
    simp at h ⊢; omega
  · injection h with h; subst h
    refine ⟨!decide (p = q), by simp [binOp, Op.intCmp, bne, BEq.beq], dec2_rep (fun h => ?_) fun h => by cases h⟩
    simp at h ⊢; omega
  · cases h
theorem cmpS_run {op : BinOp} {t : TypeId} {x y : ByteArray} {v : V} (h : cmpS op = some v) : ∃ b, (binOp op t (.string x) (.string y)).run P w = .ok (.bool b) w ∧ Rep g v (.bool b) := by
  unfold cmpS at h
  split at h
  · injection h with h; subst h
    exact ⟨x.toList == y.toList, by simp only [binOp, Op.stringOp, Sem.run_pure], .anyb _⟩
  · injection h with h; subst h
    exact ⟨!(x.toList == y.toList), by simp only [binOp, Op.stringOp, Sem.run_pure], .anyb _⟩
  · cases h
theorem rng_did (hM : RM w0 g M n w) {op : BinOp} {t : TypeId} {ox oy : Operand} {j k : IntKind} {x x' y y' p q : Int} (h1 : x ≤ p) (h2 : p ≤ x') (h3 : y ≤ q) (h4 : q ≤ y') (h : bb (decide (j = k)) (ob (cmpR op x x' y y') fun v => K v M n) = some r) :
    DidS w0 g M n w K r ((do eqGuard op t ox oy (.int j p) (.int k q); binOp op t (.int j p) (.int k q) : Sem Value).run P w) := by
  replace h := bb_some h; obtain ⟨e, h⟩ := h
  obtain rfl : _ = _ := of_decide_eq_true e
  replace h := ob_some h; obtain ⟨v, hv, h⟩ := h
  obtain ⟨b, hb, hr⟩ := cmpR_run (P := P) (w := w) (g := g) (t := t) (k := j) hv h1 h2 h3 h4
  exact bin_val hM (guard_scalar rfl (by simp)) (hb ▸ did_ok hM h hr)
theorem cmpS_did (hM : RM w0 g M n w) {op : BinOp} {t : TypeId} {ox oy : Operand} {x y : ByteArray} (h : ob (cmpS op) (fun v => K v M n) = some r) :
    DidS w0 g M n w K r ((do eqGuard op t ox oy (.string x) (.string y); binOp op t (.string x) (.string y) : Sem Value).run P w) := by
  replace h := ob_some h; obtain ⟨v, hv, h⟩ := h
  obtain ⟨b, hb, hr⟩ := cmpS_run (P := P) (w := w) (g := g) (t := t) (x := x) (y := y) hv
  exact bin_val hM (guard_scalar rfl (by simp)) (hb ▸ did_ok hM h hr)

theorem binB_did (hM : RM w0 g M n w) {op : BinOp} {t : TypeId} {ox oy : Operand} {x y : V} {cx cy : Value} (hx : Rep g x cx) (hy : Rep g y cy) (h : binB P op t x y M n K = some r) :
    DidS w0 g M n w K r ((do eqGuard op t ox oy cx cy; binOp op t cx cy : Sem Value).run P w) := by
  unfold binB at h
  split at h
  · cases hx; cases hy
    refine bin_val hM (guard_scalar rfl (by simp)) ?_
    split at h
    · exact shiftB_did hM h
    · exact shiftB_did hM h
    · rename_i h1 h2
      replace h := bb_some h; obtain ⟨e, h3⟩ := h
      obtain rfl : _ = _ := of_decide_eq_true e
      exact intB_did hM h3 ⟨h1, h2⟩
  · cases hx with | str e1 s1 => cases hy with | str e2 s2 =>
      subst e1 e2
      exact bin_val hM (guard_scalar rfl (by simp)) (strB_did hM h)
  · cases hx with | rng h1 h2 => cases hy; exact rng_did hM h1 h2 (Int.le_refl _) (Int.le_refl _) h
  · cases hx; cases hy with | rng h1 h2 => exact rng_did hM (Int.le_refl _) (Int.le_refl _) h1 h2 h
  · cases hx with | rng h1 h2 => cases hy with | rng h3 h4 => exact rng_did hM h1 h2 h3 h4 h
  · cases hx; cases hy; exact cmpS_did hM h
  · cases hx; cases hy; exact cmpS_did hM h
  · cases hx; cases hy; exact cmpS_did hM h
  · split at h
    · obtain ⟨b, hb, he, hg, h1, h2, h3, h4⟩ := eqT_run (P := P) (w := w) h hx hy
      rw [kB_eq] at hb
      exact bin_val hM (hg _ _ _) ((binOp_eql he h1 h2 h3 h4).1 ▸ did_ok hM hb (.bool _))
    · obtain ⟨b, hb, he, hg, h1, h2, h3, h4⟩ := eqT_run (P := P) (w := w) h hx hy
      rw [kB_eq] at hb
      exact bin_val hM (hg _ _ _) ((binOp_eql he h1 h2 h3 h4).2 ▸ did_ok hM hb (.bool _))
    · cases h

theorem unB_did (hM : RM w0 g M n w) {op : UnOp} {x : V} {cx : Value} (hx : Rep g x cx) (h : unB op x M n K = some r) : DidS w0 g M n w K r ((Op.unary op cx).run P w) := by
  unfold unB at h
  split at h
  · cases hx; rw [kB_eq] at h; exact did_ok hM h (.bool _)
  · cases hx; exact did_ok hM h (.anyb _)
  · cases hx; rw [kI_eq] at h; exact did_ok hM h (.int _ _)
  · cases hx
    replace h := ob_some h; obtain ⟨z, hz, h⟩ := h
    rw [kI_eq] at h
    have hb := bitsO_run (P := P) (w := w) hz
    exact (show (Op.unary .xor (.int _ _)).run P w = _ from hb) ▸ did_ok hM h (.int _ _)
  · cases h

theorem extractB_did (hM : RM w0 g M n w) {x : V} {i : Nat} {cx : Value} (hx : Rep g x cx) (h : extractB M n x i K = some r) : DidS w0 g M n w K r ((Instr.extract cx i).run P w) := by
  unfold extractB at h
  split at h
  · replace h := ob_some h; obtain ⟨v, hv, h⟩ := h
    cases hx with | tup hx =>
      obtain ⟨cv, hcv, hr⟩ := hx.get hv
      rename_i vs
      have : (Instr.extract (.tuple vs) i).run P w = .ok cv w := by
        have hcv' : vs[i]? = some cv := by rw [← Array.getElem?_toList]; exact hcv
        simp [Instr.extract, hcv']
      exact this ▸ did_ok hM h hr
  · cases h

theorem nilCheckB_did (hM : RM w0 g M n w) {x : V} {cx : Value} (hx : Rep g x cx) (h : nilCheckB M n x K = some r) : DidS w0 g M n w K r (.ok cx w) ∧
    (∀ {q : Result Next}, q = (match cx with
      | .pointer none | .nilIface | .nilFunc => runtimePanic .nilDeref
      | .func (.method name) first captured =>
        match (first[0]? : Option Value) with
        | some .nilIface => runtimePanic .nilDeref
        | some (.iface t w) => do
          if (← nilAhead ((← program).types.size + Made.depth) t w name) != some false then
            unsupported (.noEntry "op/nilCheck.the method's receiver behind this interface value is a nil pointer, or cannot be seen to be none, and the arguments act or may panic (ledger 612)")
          pure (.value (.func (.method name) first captured))
        | _ => pure (.value (.func (.method name) first captured))
      | x => pure (.value x) : Sem Next).run P w → q = .ok (.value cx) w) := by
  unfold nilCheckB at h
  split at h
  · exact ⟨did_ok hM h hx, by cases hx; rintro q rfl; rfl⟩
  · exact ⟨did_ok hM h hx, by cases hx; rintro q rfl; rfl⟩
  · cases h

theorem fieldB_did (hM : RM w0 g M n w) {t : TypeId} {f : Nat} {x : V} {cx : Value} (hx : Rep g x cx) (h : fieldB P M n t f x K = some r) : DidS w0 g M n w K r ((Instr.fieldAt t cx f).run P w) := by
  unfold fieldB at h
  split at h
  · replace h := ob_some h; obtain ⟨o, ho, h⟩ := h
    cases hx with | ptr hg =>
      rw [Ev.fieldAt_run ho, Nat.add_assoc]
      exact did_ok hM h (.ptr hg)
  · cases h

theorem natOf {i : Nat} : (Int.ofNat i).toNat = i := rfl
theorem indexAddrB_did (hM : RM w0 g M n w) {t : TypeId} {x i : V} {cx ci : Value} (hx : Rep g x cx) (hi : Rep g i ci) (h : indexAddrB P M n t x i K = some r) : DidS w0 g M n w K r ((Instr.indexAt t cx ci).run P w) := by
  unfold indexAddrB at h
  split at h
  · rename_i e id off z len lim k i hk
    replace h := bb_some h; obtain ⟨hb, h⟩ := h
    simp only [Bool.and_eq_true, Nat.beq_eq, Nat.blt_eq] at hb
    obtain ⟨h1, h2⟩ := hb
    cases hi
    cases hx with | @sl _ _ _ _ cap _ x p hg he hl hp hc =>
      have hp := hp (by omega)
      subst hp h2
      rw [Ev.indexAt_run (kind_slice hk) (by exact Int.natCast_nonneg i) (by exact Int.ofNat_lt.2 h1) (szT_info he), addr_add, natOf, Nat.add_assoc]
      exact did_ok hM h (.ptr hg)
  · rename_i len e id off k i hk
    replace h := bb_some h; obtain ⟨hb, h⟩ := h
    simp only [Bool.and_eq_true, Nat.blt_eq] at hb
    obtain ⟨⟨h1, h2⟩, h3⟩ := hb
    have hu := kind_array hk
    obtain ⟨q, hq⟩ := szT_info h3
    cases hi
    cases hx with | ptr hg =>
      rename_i x
      have : (Instr.indexAt t (.pointer (some ⟨x.blk, x.base + off, none⟩)) (.int k (Int.ofNat i))).run P w = .ok (.pointer (some ⟨x.blk, x.base + (off + i * szT P e), none⟩)) w := by
        have h4 : ¬ (len ≤ 1) := by omega
        have h5 : (0 : Int) ≤ Int.ofNat i := Int.natCast_nonneg i
        have h6 : Int.ofNat i < (len : Int) := Int.ofNat_lt.2 h1
        simp [Instr.indexAt, asIntOf, run_underlying hu, Instr.sureAddr, h5, h6, run_sizeOf hq, szT, hq, addr_add, h1, Nat.add_assoc]
      rw [this]
      exact did_ok hM h (.ptr hg)
  · cases h

theorem natsOf_get {s : ByteArray} {i c : Nat} (h : (natsOf s)[i]? = some c) : i < s.size ∧ s[i]? = some (s.data.toList.getD i 0) ∧ (s.data.toList.getD i 0).toNat = c := by
  have hi : i < s.size := by rw [← natsOf_length]; exact (List.getElem?_eq_some_iff.1 h).1
  refine ⟨hi, Ev.bytes_get s i hi, ?_⟩
  unfold natsOf at h
  rw [List.getElem?_map] at h
  obtain ⟨b, hb, rfl⟩ := Option.map_eq_some_iff.1 h
  rw [List.getD_eq_getElem?_getD, hb]; rfl
theorem indexB_did (hM : RM w0 g M n w) {t : TypeId} {x i : V} {cx ci : Value} (hx : Rep g x cx) (hi : Rep g i ci) (h : indexB P M n t x i K = some r) : DidS w0 g M n w K r ((Instr.index t cx ci).run P w) := by
  unfold indexB at h
  split at h
  · rename_i l k i hk
    cases hi
    cases hx with | str e hs =>
      rename_i s
      subst e
      replace h := ob_some h; obtain ⟨c, hc, h⟩ := h
      obtain ⟨h1, h2, h3⟩ := natsOf_get hc
      have : (Instr.index t (.string s) (.int k (Int.ofNat i))).run P w = .ok (.int .u8 (Int.ofNat c)) w := by
        have h0 : (0 : Int) ≤ Int.ofNat i := Int.natCast_nonneg i
        simp only [Instr.index, asIntOf, Sem.run_bind, Sem.run_pure, Result.andThen_ok, run_underlying (kind_str hk), if_pos h0, natOf, h2, h3]
        rfl
      exact this ▸ did_ok hM h (.int _ _)
  · cases h

theorem bnd_run {x : Option Operand} {d i : Nat} (hF : EvR g F a x.toList) (h : bnd F x d = some i) : (x = none ∧ i = d) ∨ ∃ y k, x = some y ∧ a.eval y = .int k (Int.ofNat i) := by
  unfold bnd at h
  split at h
  · injection h with h; exact .inl ⟨rfl, h.symm⟩
  · rename_i y
    split at h
    · rename_i k j hy
      injection h with h; subst h
      have := hF y (by simp) _ hy
      exact .inr ⟨y, k, rfl, by generalize a.eval y = cy at this; cases this; rfl⟩
    · cases h
theorem optB_run {x : Option Operand} {d y i : Nat} {c : BoundsCode} (hF : EvR g F a x.toList) (h : bnd F x d = some i) (h1 : i ≤ y) :
    (match x.map a.eval with | some v => Instr.sliceBound v y c | none => pure d : Sem Nat).run P w = .ok i w := by
  rcases bnd_run hF h with ⟨rfl, rfl⟩ | ⟨z, k, rfl, hz⟩
  · simp
  · have := Ev.sliceBound_run (P := P) (w := w) (k := k) (i := Int.ofNat i) (y := y) (c := c) (Int.natCast_nonneg i) (by exact Int.ofNat_le.2 h1)
    simp only [Option.map_some, hz]
    exact this
theorem bounds_run {lo hi : Option Operand} {l h len cap : Nat} {sl : Bool} (hF : EvR g F a (lo.toList ++ hi.toList)) (hl : bnd F lo 0 = some l) (hh : bnd F hi len = some h) (h1 : l ≤ h) (h2 : h ≤ cap) :
    (Instr.sliceBounds sl len cap (lo.map a.eval) (hi.map a.eval) none).run P w = .ok (l, h, cap) w := by
  have e2 := fun c => optB_run (P := P) (w := w) (c := c) (hF.sub fun y hy => by simp [hy]) hh h2
  have e3 := fun c => optB_run (P := P) (w := w) (c := c) (y := h) (hF.sub fun y hy => by simp [hy]) hl h1
  cases hi <;> cases lo <;> simp only [Option.map_none, Option.map_some] at e2 e3 ⊢ <;> simp [Instr.sliceBounds, e2, e3] <;> simp at e2 e3 <;> simp [e2, e3]
theorem bounds3_run {hi mx : Operand} {lo' : Option Operand} {l h q len cap d : Nat} (hF : EvR g F a (lo'.toList ++ [hi, mx])) (hl : bnd F lo' 0 = some l) (hh : bnd F (some hi) len = some h) (hm : bnd F (some mx) d = some q) (h1 : l ≤ h) (h2 : h ≤ q) (h3 : q ≤ cap) :
    (Instr.sliceBounds true len cap (lo'.map a.eval) (some (a.eval hi)) (some (a.eval mx))).run P w = .ok (l, h, q) w := by
  have e1 := fun c => optB_run (P := P) (w := w) (c := c) (hF.sub fun y hy => by simp at hy; simp [hy]) hm h3
  have e2 := fun c => optB_run (P := P) (w := w) (c := c) (y := q) (hF.sub fun y hy => by simp at hy; simp [hy]) hh h2
  have e3 := fun c => optB_run (P := P) (w := w) (c := c) (y := h) (hF.sub fun y hy => by simp at hy; simp [hy]) hl h1
  cases lo' <;> simp only [Option.map_none, Option.map_some] at e1 e2 e3 ⊢ <;> simp [Instr.sliceBounds, e1, e2, e3] <;> simp at e3 <;> simp [e3]

theorem natsOf_extract (s : ByteArray) (l h : Nat) : natsOf (s.extract l h) = ((natsOf s).drop l).take (h - l) := by
  unfold natsOf
  rw [ByteArray.data_extract, Array.toList_extract, List.extract_eq_take_drop, List.map_take, List.map_drop]

theorem capK_some' (hM : RM w0 g M n w) {id off e : Nat} {lim : Option Nat} {x : Lc} {cap : Nat} {K : Nat → Bool → Option A} (hg : g id = some x) (he : 0 < e) (hc : capIs x off e cap lim) (h : capK M id off e lim K = some r) :
    ∃ c ex, K c ex = some r ∧ c ≤ cap ∧ (ex = true → lim = none → ∃ k c', M.get id = some (.cells k true c')) ∧ (∀ c', lim = some c' → c = c' ∧ ex = true) ∧ (ex = true → c = cap) ∧ (ex = false → lim = none ∧ ∃ k c', M.get id = some (.cells k false c')) := by
  unfold capK at h
  split at h
  · rename_i c
    obtain ⟨hc1, hc2⟩ := hc
    exact ⟨c, true, h, by omega, (fun _ h' => nomatch h'), (fun c' h' => ⟨Option.some.inj h', rfl⟩), (fun _ => by omega), (fun h' => nomatch h')⟩
  · replace h := cellsAt_some h; obtain ⟨k, ex, c, hk, h⟩ := h
    obtain ⟨y, hy, cs, ty, fr, g1, g2, g3, g4, g5, g6⟩ := hM.rep id _ hk
    obtain rfl : x = y := by rw [hg] at hy; injection hy
    have hc : x.base + off + cap * e = x.size := hc
    have hle : (k - off) / e ≤ cap := by
      have h1 : k - off ≤ cap * e := by omega
      have := Nat.div_le_div_right (c := e) h1
      rwa [Nat.mul_div_cancel _ he] at this
    refine ⟨_, ex, h, hle, fun h _ => ⟨k, c, by rw [← h]; exact hk⟩, by simp, fun hex => ?_, fun hex => ⟨rfl, k, c, by rw [← hex]; exact hk⟩⟩
    have := g5 hex
    show (k - off) / e = cap
    rw [show k - off = cap * e by omega, Nat.mul_div_cancel _ he]

theorem sliceB_did (hM : RM w0 g M n w) {t : TypeId} {lo hi mx : Option Operand} {x : V} (hF : EvR g F a (lo.toList ++ hi.toList ++ mx.toList)) {cx : Value} (hx : Rep g x cx) (h : sliceB P F M n t x lo hi mx K = some r) :
    DidS w0 g M n w K r ((Instr.sliceAt t cx (lo.map a.eval) (hi.map a.eval) (mx.map a.eval)).run P w) := by
  unfold sliceB at h
  split at h
  · rename_i s hk
    cases hx with | str e hs =>
      rename_i s
      subst e
      replace h := ob_some h; obtain ⟨l, hl, h⟩ := h
      replace h := ob_some h; obtain ⟨q, hq, h⟩ := h
      replace h := bb_some h; obtain ⟨hb, h⟩ := h
      simp only [Bool.and_eq_true, Option.isNone_iff_eq_none] at hb
      obtain ⟨⟨rfl, h1⟩, h2⟩ := hb
      have h1 := Nat.le_of_ble_eq_true h1
      have h2 := Nat.le_of_ble_eq_true h2
      rw [natsOf_length] at h2 hq
      rw [Ev.sliceAt_str (kind_str hk)]
      have := bounds_run (P := P) (w := w) (sl := false) (cap := s.size) (hF.sub fun y hy => List.mem_append_left _ hy) hl hq h1 h2
      simp only [Instr.slice, Sem.run_bind, run_underlying (kind_str hk), Result.andThen_ok, Option.map_none, Option.isSome_none, Bool.false_eq_true, if_false, this, Sem.run_pure]
      exact did_ok hM h (.str (natsOf_extract s l q).symm (Nat.le_trans (Ev.extract_size _ _ _ h1 h2) hs))
  · rename_i b1 b2 hk
    cases hx with | @anys _ _ s h1 h2 hs =>
      replace h := ob_some h; obtain ⟨l, hl, h⟩ := h
      have key : ∀ q, bnd F hi s.size = some q → mx = none → l ≤ q → q ≤ s.size → (∀ c d, c ≤ q - l → q - l ≤ d → K (.anys c d) M n = some r → DidS w0 g M n w K r ((Instr.sliceAt t (.string s) (lo.map a.eval) (hi.map a.eval) (mx.map a.eval)).run P w)) := fun q hq hmx h3 h4 c d hc hd hK => by
        subst hmx
        rw [Ev.sliceAt_str (kind_str hk)]
        have := bounds_run (P := P) (w := w) (sl := false) (cap := s.size) (hF.sub fun y hy => List.mem_append_left _ hy) hl hq h3 h4
        simp only [Instr.slice, Sem.run_bind, run_underlying (kind_str hk), Result.andThen_ok, Option.map_none, Option.isSome_none, Bool.false_eq_true, if_false, this, Sem.run_pure]
        have hsz : (s.extract l q).size = q - l := by rw [ByteArray.size_extract]; omega
        exact did_ok hM hK (.anys (by rw [hsz]; exact hc) (by rw [hsz]; exact hd) (Nat.le_trans (Ev.extract_size _ _ _ h3 h4) hs))
      split at h
      · rename_i ho
        replace h := ob_some h; obtain ⟨q, hq, h⟩ := h
        replace h := bb_some h; obtain ⟨hb, h⟩ := h
        simp only [Bool.and_eq_true, Option.isNone_iff_eq_none] at hb
        obtain ⟨⟨hmx, h3⟩, h4⟩ := hb
        have h3 := Nat.le_of_ble_eq_true h3
        have h4 := Nat.le_of_ble_eq_true h4
        exact key q (by unfold bnd at hq ⊢; exact hq) hmx h3 (by omega) _ _ (Nat.le_refl _) (Nat.le_refl _) h
      · replace h := bb_some h; obtain ⟨hb, h⟩ := h
        simp only [Bool.and_eq_true, Option.isNone_iff_eq_none] at hb
        obtain ⟨hmx, h3⟩ := hb
        have h3 := Nat.le_of_ble_eq_true h3
        exact key s.size rfl hmx (by omega) (Nat.le_refl _) _ _ (by omega) (by omega) h
  · rename_i e hk
    replace h := ob_some h; obtain ⟨l, hl, h⟩ := h
    replace h := ob_some h; obtain ⟨q, hq, h⟩ := h
    replace h := ob_some h; obtain ⟨z, hz, h⟩ := h
    replace h := bb_some h; obtain ⟨hb, h⟩ := h
    simp only [Bool.and_eq_true, Nat.beq_eq, Nat.blt_eq] at hb
    obtain ⟨⟨⟨⟨rfl, rfl⟩, rfl⟩, h3⟩, h4⟩ := hb
    have hu := kind_slice hk
    obtain ⟨i, hi'⟩ := szT_info h4
    cases hx
    rw [Ev.sliceAt_slice hu]
    cases mx with
    | none =>
      have := bounds_run (P := P) (w := w) (sl := true) (cap := 0) (hF.sub fun y hy => List.mem_append_left _ hy) hl hq (Nat.le_refl _) (Nat.le_refl _)
      simp only [Instr.slice, Sem.run_bind, run_underlying hu, Result.andThen_ok, Option.map_none, this, run_sizeOf hi', Sem.run_pure]
      simp only [Nat.sub_self, if_true]
      exact did_ok hM h .nils
    | some mx =>
      cases hi with
      | none => simp at h3
      | some hi =>
        have := bounds3_run (P := P) (w := w) (cap := 0) (hF.sub fun y hy => by simpa [or_assoc] using hy) hl hq hz (Nat.le_refl _) (Nat.le_refl _) (Nat.le_refl _)
        simp only [Instr.slice, Sem.run_bind, run_underlying hu, Result.andThen_ok, Option.map_some, this, run_sizeOf hi', Sem.run_pure]
        simp only [Nat.sub_self, if_true]
        exact did_ok hM h .nils
  · rename_i e id off z len lim hk
    replace h := ob_some h; obtain ⟨l, hl, h⟩ := h
    replace h := ob_some h; obtain ⟨q, hq, h⟩ := h
    cases hx with | @sl _ _ _ _ cap _ x p hg he hle hp hc =>
      replace h := capK_some' hM hg he hc h
      obtain ⟨c, ex, h, hcc, hc1, hc2, hc3, hc4⟩ := h
      replace h := ob_some h; obtain ⟨y, hy, h⟩ := h
      replace h := bb_some h; obtain ⟨hb, h⟩ := h
      simp only [Bool.and_eq_true, Nat.beq_eq, Nat.blt_eq] at hb
      obtain ⟨⟨⟨⟨⟨hz, hpos⟩, h1⟩, h2⟩, h3⟩, h4⟩ := hb
      have h1 := Nat.le_of_ble_eq_true h1
      have h2 := Nat.le_of_ble_eq_true h2
      have h3 := Nat.le_of_ble_eq_true h3
      have hu := kind_slice hk
      subst hz
      obtain ⟨i, hi'⟩ := szT_info hpos
      have his : i.size = szT P e := by simp [szT, hi']
      rw [Ev.sliceAt_slice hu]
      -- what the cut is
      have key : ∀ (M' : Nat), q ≤ M' → M' ≤ cap → (∀ lim', lim' = (limOf mx y l lim) → capIs x (off + l * szT P e) (szT P e) (M' - l) lim') →
          Rep g (.sl id (off + l * szT P e) (szT P e) (q - l) (limOf mx y l lim)) (.slice (if M' = l then some p else (some p).map (·.add (l * szT P e))) (q - l) (M' - l)) := fun M' hM1 hM2 hcap => by
        by_cases hl' : M' = l
        · rw [if_pos hl']
          exact .sl hg he (by omega) (fun h0 => by omega) (hcap _ rfl)
        · rw [if_neg hl']
          have hp := hp (by omega)
          subst hp
          simp only [Option.map_some, addr_add, Nat.add_assoc]
          exact .sl hg he (by omega) (fun _ => rfl) (hcap _ rfl)
      have hmul : l * szT P e + (cap - l) * szT P e = cap * szT P e := by rw [← Nat.add_mul]; congr 1; omega
      cases mx with
      | none =>
        have := bounds_run (P := P) (w := w) (sl := true) (cap := cap) (hF.sub fun y hy => List.mem_append_left _ hy) hl hq h1 (by omega)
        simp only [Instr.slice, Sem.run_bind, run_underlying hu, Result.andThen_ok, Option.map_none, this, run_sizeOf hi', his, Sem.run_pure]
        refine did_ok hM h (key cap (by omega) (Nat.le_refl _) ?_)
        rintro lim' rfl
        cases lim with
        | none =>
          have hc : x.base + off + cap * szT P e = x.size := hc
          show x.base + (off + l * szT P e) + (cap - l) * szT P e = x.size
          omega
        | some c' =>
          obtain ⟨hc', hc''⟩ : cap = c' ∧ x.base + off + cap * szT P e ≤ x.size := hc
          exact ⟨by rw [hc'], by omega⟩
      | some mx =>
        cases hi with
        | none => simp at h4
        | some hi =>
          have := bounds3_run (P := P) (w := w) (cap := cap) (hF.sub fun y hy => by simpa [or_assoc] using hy) hl hq hy h1 h2 (by omega)
          simp only [Instr.slice, Sem.run_bind, run_underlying hu, Result.andThen_ok, Option.map_some, this, run_sizeOf hi', his, Sem.run_pure]
          refine did_ok hM h (key y h2 (by omega) ?_)
          rintro lim' rfl
          have hle' : x.base + off + cap * szT P e ≤ x.size := by
            cases lim with
            | none => exact Nat.le_of_eq hc
            | some c' => exact hc.2
          have : (y - l) * szT P e ≤ (cap - l) * szT P e := Nat.mul_le_mul_right _ (by omega)
          exact ⟨rfl, by omega⟩
  · cases h

theorem lenB_did (hM : RM w0 g M n w) {t ty : TypeId} {x : V} {cx : Value} (hx : Rep g x cx) (h : lenB P M n t x K = some r) :
    DidS w0 g M n w K r ((Builtin.len_ #[t] ty #[cx]).run P w) := by
  unfold lenB at h
  split at h
  · rename_i l hk
    cases hx with | str e hs =>
      rename_i s
      subst e
      rw [kN_eq, natsOf_length] at h
      exact (show (Builtin.len_ #[t] ty #[.string s]).run P w = .ok (.int .i64 s.size) w by simp [Builtin.len_, run_underlying (kind_str hk), goInt]) ▸ did_ok hM h (.int _ _)
  · rename_i hk
    cases hx with | @anys _ _ s h1 h2 hs =>
      exact (show (Builtin.len_ #[t] ty #[.string s]).run P w = .ok (.int .i64 s.size) w by simp [Builtin.len_, run_underlying (kind_str hk), goInt]) ▸ did_ok hM h (.rng (Int.ofNat_le.2 h1) (Int.ofNat_le.2 h2))
  · rename_i hk
    cases hx
    rw [kN_eq] at h
    exact (show (Builtin.len_ #[t] ty #[.slice none 0 0]).run P w = .ok (.int .i64 ((0 : Nat) : Int)) w by simp [Builtin.len_, run_underlying (kind_slice hk), goInt]) ▸ did_ok hM h (.int _ _)
  · rename_i hk
    rw [kN_eq] at h
    cases hx with | @sl _ _ _ _ cap _ x p hg he hle hp hc =>
      rename_i len _
      exact (show (Builtin.len_ #[t] ty #[.slice (some p) len cap]).run P w = .ok (.int .i64 (len : Int)) w by simp [Builtin.len_, run_underlying (kind_slice hk), goInt]) ▸ did_ok hM h (.int _ _)
  · rename_i hk
    cases hx
    rw [kN_eq] at h
    exact (show (Builtin.len_ #[t] ty #[.map none]).run P w = .ok (.int .i64 ((0 : Nat) : Int)) w by simp [Builtin.len_, run_underlying (kind_map hk), goInt]) ▸ did_ok hM h (.int _ _)
  · rename_i hk
    replace h := mapAt_some h; obtain ⟨es, c, hid, h⟩ := h
    rw [kN_eq] at h
    cases hx with | @mp _ x hg =>
      obtain ⟨y, hy, ces, h1, h2⟩ := hM.rep _ _ hid
      obtain rfl : x = y := by rw [hg] at hy; injection hy
      have hl : es.length = ces.size := by have := h2.length; rwa [Array.length_toList (xs := ces)] at this
      exact (show (Builtin.len_ #[t] ty #[.map (some x.blk)]).run P w = .ok (.int .i64 (es.length : Int)) w by simp [Builtin.len_, run_underlying (kind_map hk), goInt, MapKept.run_getObj_map h1, hl]) ▸ did_ok hM h (.int _ _)
  · rename_i q e hk
    rw [kN_eq] at h
    exact (show (Builtin.len_ #[t] ty #[cx]).run P w = .ok (.int .i64 (q : Int)) w by simp [Builtin.len_, run_underlying (kind_array hk), goInt]) ▸ did_ok hM h (.int _ _)
  · cases h

theorem minmaxB_did (hM : RM w0 g M n w) {mx : Bool} {ts : Array TypeId} {ty : TypeId} {x y : V} {cx cy : Value} (hx : Rep g x cx) (hy : Rep g y cy) (h : minmaxB mx x y M n K = some r) :
    DidS w0 g M n w K r ((if mx then Builtin.max_ ts ty #[cx, cy] else Builtin.min_ ts ty #[cx, cy] : Sem Value).run P w) := by
  unfold minmaxB at h
  split at h
  · rename_i k p k' q
    replace h := bb_some h; obtain ⟨e, h2⟩ := h
    obtain rfl : _ = _ := of_decide_eq_true e
    cases hx; cases hy
    cases mx
    · have : (Builtin.min_ ts ty #[.int k p, .int k q]).run P w = .ok (.int k (if q < p then q else p)) w := by
        simp [Builtin.min_, Builtin.min2]
      simp only [Bool.false_eq_true, if_false] at h2 ⊢
      rw [this]
      refine did_ok hM h2 ?_
      rw [leI_eq]
      by_cases hpq : p ≤ q
      · rw [if_neg (by omega)]; simp only [hpq, decide_true]; exact .int _ _
      · rw [if_pos (by omega)]; simp only [hpq, decide_false]; exact .int _ _
    · have : (Builtin.max_ ts ty #[.int k p, .int k q]).run P w = .ok (.int k (if q > p then q else p)) w := by
        simp [Builtin.max_, Builtin.max2]
      simp only [if_true] at h2 ⊢
      rw [this]
      refine did_ok hM h2 ?_
      rw [leI_eq]
      by_cases hpq : q ≤ p
      · rw [if_neg (by omega)]; simp only [hpq, decide_true]; exact .int _ _
      · rw [if_pos (by omega)]; simp only [hpq, decide_false]; exact .int _ _
  · cases h
end Go.Eb

/-
The closed evaluator: reading and writing memory, new memory.
-/
set_option linter.unusedVariables false
set_option linter.unusedSimpArgs false
namespace Go.Eb
open Go.Ev (szT byT aggO offT fszT TK kindT elemK zok LK leavesT kind_slice kind_array kind_str kind_int run_sizeOf szT_info addr_add At zok_is)
variable {A : Type} {P : Program} {w0 : World} {g : Env} {F : Fr} {M : Mm} {n m : Nat} {a : Act} {w : World} {K : V → Mm → Nat → Option A} {r : A}

/-- What is read out of a block. -/
theorem read_rep {h : Array Obj} {x : Lc} {k off q : Nat} {ex : Bool} {c : T V} {vs : List V} (hb : BlkRep g h x (.cells k ex c)) (hl : vs.length = q) (hg : ∀ i v, vs[i]? = some v → c.get (off + i) = some v) :
    ∃ cvs, RepL g vs cvs ∧ (∀ v ∈ vs, c1 v = true) ∧ cvs.length = q ∧ At h x.blk (x.base + off) cvs ∧ (0 < q → off + q ≤ k) := by
  obtain ⟨cs, ty, fr, h1, h2, h3, h4, h5, h6⟩ := hb
  have hle : 0 < q → off + q ≤ k := fun hq => by
    obtain ⟨v, hv⟩ : ∃ v, vs[q - 1]? = some v := ⟨vs[q - 1], List.getElem?_eq_getElem (by omega)⟩
    have := (h6 _ _ (hg _ _ hv)).1
    omega
  have hat : ∀ i, i < q → ∃ v, vs[i]? = some v := fun i hi => ⟨vs[i], List.getElem?_eq_getElem (by omega)⟩
  by_cases hq : q = 0
  · subst hq
    have : vs = [] := List.eq_nil_of_length_eq_zero hl
    subst this
    exact ⟨[], .nil, by simp, rfl, by intro k v hk; simp at hk, fun h => absurd h (by omega)⟩
  · have hle' := hle (by omega)
    have hlen : ((cs.toList.drop (x.base + off)).take q).length = q := by
      rw [List.length_take, List.length_drop, Array.length_toList]; omega
    have hgets : ∀ i, i < q → ((cs.toList.drop (x.base + off)).take q)[i]? = cs[x.base + off + i]? := fun i hi => by
      rw [List.getElem?_take, if_pos hi, List.getElem?_drop, Array.getElem?_toList]
    refine ⟨(cs.toList.drop (x.base + off)).take q, RepL.of_get (by rw [hl, hlen]) fun i v hv => ?_, fun v hv => ?_, hlen, fun i u hu => ?_, hle⟩
    · have hi : i < q := by rw [← hl]; exact (List.getElem?_eq_some_iff.1 hv).1
      obtain ⟨_, _, cv, hc, hr⟩ := h6 _ _ (hg i v hv)
      refine ⟨cv, ?_, hr⟩
      rw [hgets i hi, Nat.add_assoc]; exact hc
    · obtain ⟨i, hi⟩ := List.getElem?_of_mem hv
      exact (h6 _ _ (hg i v hi)).2.1
    · have hi : i < q := by rw [← hlen]; exact (List.getElem?_eq_some_iff.1 hu).1
      rw [hgets i hi] at hu
      unfold Ev.cellAt
      rw [h1]; exact hu

/-- The package variables that may be read. -/
def GlobOk (P : Program) (w : World) : Prop := ∀ k, globOk P k = true → ∃ c, w.cell? ⟨k, 0, none⟩ = some c ∧ c.oneCell' = true
theorem loadB_did (hG : GlobOk P w0) (hM : RM w0 g M n w) {t : TypeId} {p : V} {cp : Value} (hp : Rep g p cp) (h : loadB P M n t p K = some r) : DidS w0 g M n w K r ((Instr.loadAt t cp).run P w) := by
  unfold loadB at h
  split at h
  · rename_i id off
    replace h := cellsAt_some h; obtain ⟨k, ex, c, hid, h⟩ := h
    replace h := ob_some h; obtain ⟨ag, hag, h⟩ := h
    replace h := bb_some h; obtain ⟨hpos, h⟩ := h
    have hpos : 0 < szT P t := by simpa [Nat.blt_eq] using hpos
    cases hp with | @ptr _ _ x hg =>
      obtain ⟨y, hy, hb⟩ := hM.rep id _ hid
      obtain rfl : x = y := by rw [hg] at hy; injection hy
      rw [Ev.loadAt_run]
      cases ag with
      | true =>
        obtain ⟨vs, hl, hgs, h⟩ := readK_some h
        obtain ⟨cvs, h1, h2, h3, h4, h5⟩ := read_rep hb hl hgs
        rw [Ev.loadVar_run hag hpos h4 h3]
        exact did_ok hM h (.agg (by simpa using h1) h2)
      | false =>
        obtain ⟨v, hv, h⟩ := ob_some h
        obtain ⟨cs, ty, fr, g1, g2, g3, g4, g5, g6⟩ := hb
        obtain ⟨h6, h7, cv, h8, h9⟩ := g6 off v hv
        obtain ⟨i, hi⟩ := szT_info hpos
        unfold loadVar
        have hc : w.cell? ⟨x.blk, x.base + off, none⟩ = some cv := by
          rw [Ev.cell_at]; unfold Ev.cellAt; rw [g1]; exact h8
        simp only [Sem.run_bind, Ev.aggO_run hag, Result.andThen_ok, Bool.false_eq_true, if_false, run_load, hc]
        exact did_ok hM h h9
  · rename_i k
    replace h := bb_some h; obtain ⟨hgk, h⟩ := h
    replace h := ob_some h; obtain ⟨ag, hag, h⟩ := h
    obtain ⟨c, hc, h1⟩ := hG k hgk
    have hk : k < w0.heap.size := by
      unfold World.cell? at hc
      dsimp only at hc
      cases hh : w0.heap[k]? with
      | none => rw [hh] at hc; cases hc
      | some _ => exact (Array.getElem?_eq_some_iff.1 hh).1
    have hc' : w.cell? ⟨k, 0, none⟩ = some c := by
      rw [← hc]; unfold World.cell?; dsimp only; rw [hM.old k hk]
    cases ag with
    | true => cases h
    | false =>
      cases hp with | glob =>
        rw [Ev.loadAt_run]
        unfold loadVar
        simp only [Sem.run_bind, Ev.aggO_run hag, Result.andThen_ok, Bool.false_eq_true, if_false, run_load, hc']
        exact did_ok hM h (.undef h1)
  · cases h

/-- Cells of a block written anew. -/
theorem write_ok (hM : RM w0 g M n w) {id off k : Nat} {ex : Bool} {c c' : T V} {x : Lc} {vs : List V} {cvs : List Value} (hid : M.get id = some (.cells k ex c)) (hg : g id = some x) (hv : RepL g vs cvs) (h1 : ∀ v ∈ vs, c1 v = true)
    (hle : off + vs.length ≤ k) (hc : ∀ j u, c'.get j = some u → (off ≤ j ∧ vs[j - off]? = some u) ∨ ((j < off ∨ off + vs.length ≤ j) ∧ c.get j = some u)) :
    RM w0 g (M.set id (some (.cells k ex c'))) n (w.setCells x.blk (x.base + off) cvs) ∧ Mv g M w g (M.set id (some (.cells k ex c'))) (w.setCells x.blk (x.base + off) cvs) ∧
      ∃ cells ty fr, w.heap[x.blk]? = some (.cells cells ty fr) ∧ openB fr cells.size ∧ x.base + off + vs.length ≤ cells.size ∧ cvs.length = vs.length := by
  obtain ⟨y, hy, cs, ty, fr, b1, b2, b3, b4, b5, b6⟩ := hM.rep id _ hid
  obtain rfl : x = y := by rw [hg] at hy; injection hy
  have hlen := hv.length
  obtain ⟨cells', s1, s2, s3, s4, s5, s6, s7, s8⟩ := Ev.setCells_is cvs (x.base + off) w cs b1 (by omega)
  have := hM.write (b' := .cells k ex c') hid hg s4 s5 ⟨cells', ty, fr, s1, by omega, by rw [s3]; exact b3, b4, b5, fun j u hj => by
    have hpre : (cs.toList.take (x.base + off)).length = x.base + off := by rw [List.length_take, Array.length_toList]; omega
    rcases hc j u hj with ⟨h2, h3⟩ | ⟨h2, h3⟩
    · obtain ⟨cv, hcv, hr⟩ := hv.get h3
      have hjl : j - off < vs.length := (List.getElem?_eq_some_iff.1 h3).1
      refine ⟨by omega, h1 _ (List.mem_of_getElem? h3), cv, ?_, hr⟩
      rw [← Array.getElem?_toList, s2, List.getElem?_append_right (by omega), hpre, List.getElem?_append_left (by omega)]
      rw [show x.base + j - (x.base + off) = j - off by omega]; exact hcv
    · obtain ⟨h4, h5, cv, h6, h7⟩ := b6 j u h3
      refine ⟨h4, h5, cv, ?_, h7⟩
      rw [← Array.getElem?_toList, s2]
      rcases h2 with h2 | h2
      · rw [List.getElem?_append_left (by omega), List.getElem?_take, if_pos (by omega), Array.getElem?_toList]; exact h6
      · rw [List.getElem?_append_right (by omega), hpre, List.getElem?_append_right (by omega), List.getElem?_drop]
        rw [show x.base + off + cvs.length + (x.base + j - (x.base + off) - cvs.length) = x.base + j by omega, Array.getElem?_toList]; exact h6⟩ s7 s6 s8
  exact ⟨this.1, this.2, cs, ty, fr, b1, b3, by omega, hlen.symm⟩

theorem storeB_did (hM : RM w0 g M n w) {t : TypeId} {p v : V} {cp cv : Value} (hp : Rep g p cp) (hv : Rep g v cv) (h : storeB P M n t p v K = some r) :
    ∃ M' n' w', K (.tup []) M' n' = some r ∧ (Instr.storeAt t cp cv).run P w = .ok () w' ∧ RM w0 g M' n' w' ∧ Mv g M w g M' w' := by
  unfold storeB at h
  split at h
  · rename_i id off
    replace h := cellsAt_some h; obtain ⟨k, ex, c, hid, h⟩ := h
    replace h := ob_some h; obtain ⟨vs, hvs, h⟩ := h
    replace h := bb_some h; obtain ⟨hb, h⟩ := h
    simp only [Bool.and_eq_true, Nat.beq_eq, Nat.blt_eq] at hb
    obtain ⟨⟨hl, hpos⟩, hle⟩ := hb
    have hle := Nat.le_of_ble_eq_true hle
    obtain ⟨c', hc, h⟩ := writeK_some h
    rw [T.setK_set] at h
    obtain ⟨hr, h1⟩ := cellsO_rep hvs hv
    cases hp with | @ptr _ _ x hg =>
      obtain ⟨h2, h3, cells, ty, fr, h4, h5, h6, h7⟩ := write_ok hM hid hg hr h1 (by omega) hc
      refine ⟨_, n, _, h, ?_, h2, h3⟩
      rw [Ev.storeAt_run]
      exact Ev.storeVar_run hpos h4 h5 (by rw [← Array.length_toList, h7, hl]) (by omega) (hr.ones h1)
  · cases h

/-- A new block of cells. -/
theorem cells_alloc (hM : RM w0 g M n w) {w1 : World} (hw : w1.heap = w.heap) (ht : w1.tape = w.tape) (ho : w1.os = w.os) (hu : w1.output = w.output) {ex : Bool} {vs : List V} {cvs : List Value} {c : T V} {cells : Array Value} {ty : TypeId}
    (hv : RepL g vs cvs) (h1 : ∀ v ∈ vs, c1 v = true) (hc : ∀ (j : Nat) (u : V), c.get j = some u → vs[j]? = some u) (hcs : ∀ (i : Nat) (u : Value), cvs[i]? = some u → cells[i]? = some u) (hl : vs.length ≤ cells.size) (hex : ex = true → vs.length = cells.size) :
    RM w0 (updG g n ⟨w.heap.size, 0, cells.size⟩) (M.set n (some (.cells vs.length ex c))) (n + 1) (w1.alloc (.cells cells ty)) ∧
      Mv g M w (updG g n ⟨w.heap.size, 0, cells.size⟩) (M.set n (some (.cells vs.length ex c))) (w1.alloc (.cells cells ty)) := by
  refine hM.alloc (.cells cells ty) hw ht ho hu rfl ⟨cells, ty, (0, 0), by simp, rfl, fun _ _ hk => absurd hk.2 (Nat.not_lt_zero _), by simpa using hl, fun h => by simpa using hex h, fun j u hj => ?_⟩
  have hj := hc j u hj
  obtain ⟨cv, h2, h3⟩ := hv.get hj
  exact ⟨(List.getElem?_eq_some_iff.1 hj).1, h1 _ (List.mem_of_getElem? hj), cv, by simpa using hcs j cv h2, h3.mono (hM.sub _)⟩

theorem boxB_did (hM : RM w0 g M n w) {v : V} {cv : Value} {ty : TypeId} (hv : Rep g v cv) (h : boxB M n v K = some r) : Did w0 g M w K r ((Instr.box ty cv).run P w) := by
  unfold boxB at h
  replace h := ob_some h; obtain ⟨vs, hvs, h⟩ := h
  replace h := newCells_some h; obtain ⟨c, hc, h⟩ := h
  obtain ⟨hr, h1⟩ := cellsO_rep hvs hv
  have hlen : vs.length = cv.cells.size := hr.length.trans (Array.length_toList (xs := cv.cells))
  obtain ⟨h2, h3⟩ := cells_alloc (w1 := w) (ex := true) (cells := cv.cells) (ty := ty) hM rfl rfl rfl rfl hr h1 hc (fun i u hu => by rw [← Array.getElem?_toList]; exact hu) (Nat.le_of_eq hlen) (fun _ => hlen)
  have hrun : (Instr.box ty cv).run P w = .ok (.pointer (some ⟨w.heap.size, 0, none⟩)) (w.alloc (.cells cv.cells ty)) := by simp [Instr.box, newVar, newRow]
  exact ⟨_, _, _, _, _, _, h, hrun, .ptr (x := ⟨w.heap.size, 0, cv.cells.size⟩) updG_new, h2, h3⟩
theorem allocB_did (hM : RM w0 g M n w) {ty : TypeId} {old : Value} (h : allocB P M n ty K = some r) : Did w0 g M w K r ((Instr.alloc ty true old).run P w) := by
  unfold allocB at h
  replace h := ob_some h; obtain ⟨z, hz, h⟩ := h
  obtain ⟨i, zv, hi, hiz, hr⟩ := zeroV_rep (P := P) (g := g) hz
  have := boxB_did (P := P) (ty := ty) hM hr h
  have e : (Instr.alloc ty true old).run P w = (Instr.box ty zv).run P w := by
    simp [Instr.alloc, Instr.box, zeroValue, typeInfo, hi, hiz]
  rw [e]; exact this

/-! ### What is appended or copied -/
structure Src (P : Program) (g : Env) (w : World) (z : Nat) (cy : Value) (q : Nat) (vs : List V) (cvs : List Value) : Prop where
  len : ∀ w', (Builtin.lenOf cy).run P w' = .ok q w'
  cells : ∀ w', w'.heap = w.heap → (Builtin.firstCells z q cy).run P w' = .ok cvs.toArray w'
  some : ∀ w' k, w'.heap = w.heap → k ≤ q → (Builtin.firstCells z k cy).run P w' = .ok (cvs.take (k * z)).toArray w'
  rep : RepL g vs cvs
  one : ∀ v ∈ vs, c1 v = true
  n : cvs.length = q * z
theorem At.take {h : Array Obj} {b o k : Nat} {vs : List Value} (ha : At h b o vs) : At h b o (vs.take k) := fun j v hj => by
  rw [List.getElem?_take] at hj
  split at hj
  · exact ha j v hj
  · cases hj
theorem srcK_some (hM : RM w0 g M n w) {z : Nat} {y : V} {cy : Value} {K : Nat → List V → Option A} (hy : Rep g y cy) (h : srcK M z y K = some r) : ∃ q vs cvs, K q vs = some r ∧ Src P g w z cy q vs cvs := by
  unfold srcK at h
  split at h
  · cases hy
    refine ⟨0, [], [], h, fun w' => by simp [Builtin.lenOf], fun w' _ => by simp [Builtin.firstCells], fun w' k _ hk => ?_, .nil, by simp, by simp⟩
    obtain rfl : k = 0 := by omega
    simp [Builtin.firstCells]
  · rename_i id off z' len lim
    replace h := bb_some h; obtain ⟨hz, h⟩ := h
    rw [Nat.beq_eq] at hz
    replace h := cellsAt_some h; obtain ⟨k, ex, c, hid, h⟩ := h
    replace h := readK_some h; obtain ⟨vs, hl, hgs, h⟩ := h
    cases hy with | @sl _ _ _ _ cap _ x p hg he hle hp hc =>
      obtain ⟨y', hy', hb⟩ := hM.rep id _ hid
      obtain rfl : x = y' := by rw [hg] at hy'; injection hy'
      obtain ⟨cvs, h1, h2, h3, h4, h5⟩ := read_rep hb hl hgs
      refine ⟨len, vs, cvs, h, fun w' => by simp [Builtin.lenOf], fun w' hw => ?_, fun w' q hw hq => ?_, h1, h2, h3⟩
      · by_cases h0 : len = 0
        · subst h0
          have hnil : cvs = [] := List.eq_nil_of_length_eq_zero (by omega)
          subst hnil
          exact run_firstCells_some (P := P) w' z 0 p 0 cap [] (by simp) (by simp)
        · have hp := hp (by omega)
          subst hp
          exact run_firstCells_some (P := P) w' z len _ len cap cvs h3 fun j v hj => by rw [addr_add, Ev.cell_at, hw]; exact h4 j v hj
      · by_cases h0 : len = 0
        · subst h0
          obtain rfl : q = 0 := by omega
          simp only [Nat.zero_mul, List.take_zero]
          exact run_firstCells_some (P := P) w' z 0 p 0 cap [] (by simp) (by simp)
        · have hp := hp (by omega)
          subst hp
          have hq' : q * z ≤ len * z := Nat.mul_le_mul_right _ hq
          exact run_firstCells_some (P := P) w' z q _ len cap (cvs.take (q * z)) (by rw [List.length_take]; omega) fun j v hj => by rw [addr_add, Ev.cell_at, hw]; exact At.take h4 j v hj
  · rename_i l
    replace h := bb_some h; obtain ⟨hz, h⟩ := h
    rw [Nat.beq_eq] at hz
    subst hz
    cases hy with | str e hs =>
      rename_i s
      subst e
      have hcells : ∀ w', (Builtin.firstCells 1 s.size (.string s)).run P w' = .ok (s.data.toList.map fun b => Value.int .u8 b.toNat).toArray w' := fun w' => by
        simp [Builtin.firstCells]
        apply Array.ext'
        simp
      rw [natsOf_length] at h
      refine ⟨s.size, _, (s.data.toList.map fun b => Value.int .u8 b.toNat), h, fun w' => by simp [Builtin.lenOf], fun w' _ => hcells w', fun w' k _ hk => ?_, ?_, ?_, by rw [List.length_map, size_list]; omega⟩
      · simp [Builtin.firstCells]
        apply Array.ext'
        simp
      · unfold natsOf
        rw [List.map_map]
        generalize s.data.toList = l
        induction l with
        | nil => exact .nil
        | cons b l ih => exact .cons (.int _ _) ih
      · intro v hv
        obtain ⟨c, _, rfl⟩ := List.mem_map.1 hv
        rfl
  · cases h
end Go.Eb

/-
The closed evaluator: append, copy, clear, make.
-/
set_option linter.unusedVariables false
set_option linter.unusedSimpArgs false
namespace Go.Eb
open Go.Ev (szT byT aggO offT fszT TK kindT elemK zok LK leavesT kind_slice kind_array kind_str kind_int run_sizeOf szT_info addr_add At zok_is)
variable {A : Type} {P : Program} {w0 : World} {g : Env} {F : Fr} {M : Mm} {n m : Nat} {a : Act} {w : World} {K : V → Mm → Nat → Option A} {r : A}

/-- What is appended has no type of whole numbers. -/
def NoInt (P : Program) (u : TypeId) : Prop := (∃ e, P.underlying u = some (.slice e)) ∨ P.underlying u = some .string

section runs
variable {t u ty e : TypeId} {i : TypeInfo} {z : Value} {cy : Value} {q : Nat} {vs : List V} {cvs : List Value}
theorem app_nil (ht : P.underlying t = some (.slice e)) (hu : NoInt P u) (hi : P.info? e = some i) (hz : i.zero = some z) (hs : Src P g w i.size cy q vs cvs) (h0 : 0 < q) (hb : q * i.bytes ≤ 140737488355328) (hq : q ≤ 140737488355328) :
    (Builtin.append_ #[t, u] ty #[.slice none 0 0, cy]).run P w =
      .ok (.slice (some ⟨w.heap.size, 0, none⟩) q (grownCap w q 0 e)) (w.drew.alloc (.cells (cvs.toArray ++ Builtin.zeroCells z.cells (grownCap w q 0 e - q)) e)) := by
  have hn : q ≠ 0 := by omega
  have h63' : ¬ (9223372036854775807 < (q : Int)) := by omega
  have h48' : ¬ (281474976710656 < Builtin.nextslicecap q 0 * i.bytes) := by rw [nextslicecap_zero h0]; omega
  have hf := hs.cells w.drew rfl
  rcases hu with ⟨e', hu⟩ | hu <;>
  simp [Builtin.append_, run_underlying ht, run_underlying hu, sizeOf, typeInfo, zeroValue, hi, hz, hs.len, hn, h63', h48', Question.forced, run_firstCells_none, hf, newRow, grownCap]
theorem app_grow (ht : P.underlying t = some (.slice e)) (hu : NoInt P u) (hi : P.info? e = some i) (hz : i.zero = some z) (hs : Src P g w i.size cy q vs cvs)
    (b : Addr) (sLen sCap : Nat) (olds : List Value) (holds : (Builtin.firstCells i.size sLen (.slice (some b) sLen sCap)).run P w.drew = .ok olds.toArray w.drew)
    (hg : sCap < sLen + q) (hb : (sLen + q) * i.bytes ≤ 140737488355328) (hq : sLen + q ≤ 140737488355328) :
    (Builtin.append_ #[t, u] ty #[.slice (some b) sLen sCap, cy]).run P w =
      .ok (.slice (some ⟨w.heap.size, 0, none⟩) (sLen + q) (grownCap w (sLen + q) sCap e))
        (w.drew.alloc (.cells (olds.toArray ++ cvs.toArray ++ Builtin.zeroCells z.cells (grownCap w (sLen + q) sCap e - (sLen + q))) e)) := by
  have hn : ¬ (sLen + q ≤ sCap) := by omega
  have h63' : ¬ (9223372036854775807 < ((sLen : Int) + (q : Int))) := by omega
  have hfit := growslice_fits (need := sLen + q) (old := sCap) (bytes := i.bytes) (by omega) hb
  have h48' : ¬ (281474976710656 < Builtin.nextslicecap (sLen + q) sCap * i.bytes) := by omega
  have hf := hs.cells w.drew rfl
  rcases hu with ⟨e', hu⟩ | hu <;>
  · simp [Builtin.append_, run_underlying ht, run_underlying hu, sizeOf, typeInfo, zeroValue, hi, hz, hs.len, hn, h63', h48', Question.forced, hf, holds, newRow, grownCap]
    congr 2
    apply Array.ext'
    simp [List.append_assoc]
theorem app_room (ht : P.underlying t = some (.slice e)) (hu : NoInt P u) (hi : P.info? e = some i) (hs : Src P g w i.size cy q vs cvs)
    (b off sLen sCap : Nat) (hroom : sLen + q ≤ sCap) {cells : Array Value} {ty' : TypeId} {fr : Nat × Nat} (hb : w.heap[b]? = some (.cells cells ty' fr)) (hf : openB fr cells.size) (hle : off + sLen * i.size + cvs.length ≤ cells.size) :
    (Builtin.append_ #[t, u] ty #[.slice (some ⟨b, off, none⟩) sLen sCap, cy]).run P w = .ok (.slice (some ⟨b, off, none⟩) (sLen + q) sCap) (w.setCells b (off + sLen * i.size) cvs) := by
  have hfc := hs.cells w rfl
  have hst := run_storeCells_cells (P := P) b (off + sLen * i.size) cvs 0 w (fun j hj => by
      rw [Ev.cell_at]; unfold Ev.cellAt; rw [hb]
      show (cells[off + sLen * i.size + 0 + j]?).isSome = true
      simp; omega) (fun j hj => by
      unfold World.frozen?
      rw [hb]
      have := hf (off + sLen * i.size + 0 + j) (by omega)
      simp only [Bool.and_eq_false_iff, decide_eq_false_iff_not]
      omega) (hs.rep.ones hs.one)
  simp only [Nat.add_zero] at hst
  rcases hu with ⟨e', hu⟩ | hu <;>
  simp [Builtin.append_, run_underlying ht, run_underlying hu, sizeOf, typeInfo, hi, hs.len, hroom, hfc, Addr.add_lit, hst]
theorem app_none (ht : P.underlying t = some (.slice e)) (hu : NoInt P u) (hi : P.info? e = some i) (hs : Src P g w i.size cy q vs cvs) (hq : q = 0) (b : Option Addr) (sLen sCap : Nat) (hle : sLen ≤ sCap) :
    (Builtin.append_ #[t, u] ty #[.slice b sLen sCap, cy]).run P w = .ok (.slice b sLen sCap) w := by
  subst hq
  have hn : cvs = [] := List.eq_nil_of_length_eq_zero (by rw [hs.n]; simp)
  subst hn
  have hfc := hs.cells w rfl
  rcases hu with ⟨e', hu⟩ | hu <;> cases b <;>
  simp [Builtin.append_, run_underlying ht, run_underlying hu, sizeOf, typeInfo, hi, hs.len, hfc, storeCells, hle]
end runs

/-- A block that goes by another number. -/
theorem RM.move (h : RM w0 g M n w) {w' : World} {id : Nat} {x x' : Lc} {b b' : Blk} (hb : M.get id = some b) (hg : g id = some x) (hx : x'.blk = x.blk)
    (hk : ∀ k, k ≠ x.blk → w'.heap[k]? = w.heap[k]?) (hsz : w'.heap.size = w.heap.size) (hb' : BlkRep (updG g n x') w'.heap x' b') (ht : w'.tape = w.tape) (ho : w'.os = w.os) (hu : w'.output = w.output) :
    RM w0 (updG g n x') ((M.set id none).set n (some b')) (n + 1) w' ∧ Mv g M w (updG g n x') ((M.set id none).set n (some b')) w' := by
  have hs := h.sub x'
  have key : ∀ i c, ((M.set id none).set n (some b')).get i = some c → (i = n ∧ c = b') ∨ (i ≠ n ∧ i ≠ id ∧ M.get i = some c) := fun i c hi => by
    rcases T.get_set hi with ⟨h1, h2⟩ | ⟨h1, h2⟩
    · injection h2 with h2; exact .inl ⟨h1, h2.symm⟩
    · rcases T.get_set h2 with ⟨h3, h4⟩ | ⟨h3, h4⟩
      · cases h4
      · exact .inr ⟨h1, h3, h4⟩
  have gold : ∀ i y, i ≠ n → updG g n x' i = some y → g i = some y := fun i y hi hy => by rw [updG_other hi] at hy; exact hy
  have gnew : ∀ y, updG g n x' n = some y → y = x' := fun y hy => by rw [updG_new] at hy; injection hy with hy; exact hy.symm
  have hl := h.lt id x hg
  refine ⟨⟨fun i c hi => ?_, fun i j y z c d hi hj hy hz e => ?_, fun i y hy => ?_, by rw [hsz]; exact h.size, fun k hk' => ?_, ht.trans h.tape, ho.trans h.os, hu.trans h.output, rfl⟩, ⟨hs, by rw [hsz]; exact Nat.le_refl _, fun k hk' hn => hk k (fun e => hn id x b hb hg e.symm), fun i y c hi hy hyl => ?_, fun i hi => updG_other (by have := h.top; omega), by show g.top ≤ n + 1; have := h.top; omega⟩⟩
  · rcases key i c hi with ⟨rfl, rfl⟩ | ⟨hne, hne', hi⟩
    · exact ⟨x', updG_new, hb'⟩
    · obtain ⟨y, hy, hr⟩ := h.rep i c hi
      exact ⟨y, hs i y hy, hr.ext hs (hk _ fun e => hne' (h.inj i id y x c b hi hb hy hg e))⟩
  · rcases key i c hi with ⟨rfl, rfl⟩ | ⟨hne, hne1, hi'⟩ <;> rcases key j d hj with ⟨rfl, rfl⟩ | ⟨hne', hne2, hj'⟩
    · rfl
    · have := gnew y hy; subst this
      exact absurd (h.inj j id z x d b hj' hb (gold j z hne' hz) hg (by omega)) hne2
    · have := gnew z hz; subst this
      exact absurd (h.inj i id y x c b hi' hb (gold i y hne hy) hg (by omega)) hne1
    · exact h.inj i j y z c d hi' hj' (gold i y hne hy) (gold j z hne' hz) e
  · by_cases hi : i = n
    · subst hi
      have := gnew y hy; subst this
      rw [hsz, hx]; omega
    · have := h.lt i y (gold i y hi hy)
      rw [hsz]; omega
  · rw [hk k (by omega)]; exact h.old k hk'
  · rcases key i c hi with ⟨rfl, rfl⟩ | ⟨hne, hne', hi⟩
    · have := gnew y hy; subst this
      exact ⟨id, x, b, hb, hg, hx.symm⟩
    · exact ⟨i, y, c, hi, gold i y hne hy, rfl⟩

theorem noInt_of {t u e : TypeId} (hk : elemK (kindT P t) = some e) (h : (Nat.beq t u || (match kindT P u with | .str => true | _ => false)) = true) : kindT P t = .slice e ∧ NoInt P u := by
  have ht : kindT P t = .slice e := by
    unfold elemK at hk
    split at hk
    · rename_i e' h'; injection hk with hk; subst hk; exact h'
    · cases hk
  refine ⟨ht, ?_⟩
  rw [Bool.or_eq_true, Nat.beq_eq] at h
  rcases h with h | h
  · exact .inl ⟨e, by rw [← show t = u from h]; exact kind_slice ht⟩
  · split at h
    · rename_i hs; exact .inr (kind_str hs)
    · cases h

theorem growK_some {z len q : Nat} {ws vs : List V} (h : growK M n z len q ws vs K = some r) : ∃ c, (∀ j u, c.get j = some u → (ws ++ vs)[j]? = some u) ∧ K (.sl n 0 z (len + q) none) (M.set n (some (.cells (ws ++ vs).length false c))) (n + 1) = some r := by
  unfold growK at h
  exact newCells_some h

theorem mul0 {q z : Nat} (h : q * z = 0) (hz : 0 < z) : q = 0 := (Nat.mul_eq_zero.1 h).resolve_right (by omega)
theorem isNil_true {vs : List V} (h : isNil vs = true) : vs = [] := by cases vs with | nil => rfl | cons _ _ => cases h
theorem isNil_false {vs : List V} (h : isNil vs = false) : vs ≠ [] := by cases vs with | nil => cases h | cons _ _ => simp

theorem appendB_did (hM : RM w0 g M n w) {t u ty e : TypeId} {x y : V} {cx cy : Value} (hk : elemK (kindT P t) = some e) (hu : (Nat.beq t u || (match kindT P u with | .str => true | _ => false)) = true) (hx : Rep g x cx) (hy : Rep g y cy)
    (h : appendB P M n e x y K = some r) : Did w0 g M w K r ((Builtin.append_ #[t, u] ty #[cx, cy]).run P w) := by
  obtain ⟨hk, hu⟩ := noInt_of hk hu
  have ht := kind_slice hk
  unfold appendB at h
  replace h := bb_some h; obtain ⟨hzk, h⟩ := h
  obtain ⟨i, z, hi, hz, hzs, hipos, hisz, hiby⟩ := zok_is hzk
  split at h
  · -- nil
    replace h := srcK_some (P := P) hM hy h; obtain ⟨q, vs, cvs, h, hs⟩ := h
    rw [← hisz] at hs h
    cases hx
    cases hn : isNil vs with
    | true =>
      rw [hn] at h
      have hv := isNil_true hn
      subst hv
      have hq : q = 0 := mul0 (by rw [← hs.n, ← hs.rep.length]; rfl) hipos
      rw [app_none ht hu hi hs hq none 0 0 (Nat.le_refl _)]
      exact (did_ok hM h .nils).did
    | false =>
      rw [hn] at h
      have hv := isNil_false hn
      replace h := bb_some h; obtain ⟨hb, h⟩ := h
      rw [Bool.and_eq_true] at hb
      have hb1 := Nat.le_of_ble_eq_true hb.1
      have hb2 := Nat.le_of_ble_eq_true hb.2
      obtain ⟨c, hc, h⟩ := growK_some h
      have hlen := hs.rep.length
      have hq : 0 < q := by
        rcases Nat.eq_zero_or_pos q with rfl | hq
        · have := hs.n; simp at this; subst this; simp at hlen; exact absurd hlen hv
        · exact hq
      rw [app_nil ht hu hi hz hs hq (by rw [hiby]; exact hb1) hb2]
      have hcap := grownCap_ge w q 0 e
      have hsz : (cvs.toArray ++ Builtin.zeroCells z.cells (grownCap w q 0 e - q)).size = grownCap w q 0 e * i.size := by
        rw [Array.size_append, List.size_toArray, size_zeroCells, hzs, hs.n, ← Nat.add_mul]; congr 1; omega
      obtain ⟨h2, h3⟩ := cells_alloc (w1 := w.drew) (ex := false) (vs := [] ++ vs) (c := c) (cells := cvs.toArray ++ Builtin.zeroCells z.cells (grownCap w q 0 e - q)) (ty := e) hM rfl rfl rfl rfl (by simpa using hs.rep) (by simpa using hs.one) hc
        (fun j u hj => by rw [Array.getElem?_append_left (by simpa using (List.getElem?_eq_some_iff.1 hj).1)]; simpa using hj) (by rw [hsz, List.nil_append, hlen, hs.n]; exact Nat.mul_le_mul_right _ hcap) (by simp)
      refine ⟨_, _, _, _, _, _, h, rfl, ?_, h2, h3⟩
      rw [Nat.zero_add]
      exact .sl (x := ⟨w.heap.size, 0, _⟩) updG_new hipos hcap (fun _ => rfl) (by show 0 + 0 + grownCap w q 0 e * i.size = _; rw [hsz]; dsimp only; omega)
  · rename_i id off zz len lim
    replace h := bb_some h; obtain ⟨hzz, h⟩ := h
    rw [Nat.beq_eq, ← hisz] at hzz
    subst hzz
    replace h := srcK_some (P := P) hM hy h; obtain ⟨q, vs, cvs, h, hs⟩ := h
    have hlen := hs.rep.length
    cases hx with | @sl _ _ _ _ cap _ x p hg he hle hp hcp =>
      cases hn : isNil vs with
      | true =>
        rw [hn] at h
        have hv := isNil_true hn
        subst hv
        have hq : q = 0 := mul0 (by rw [← hs.n, ← hlen]; rfl) hipos
        rw [app_none ht hu hi hs hq (some p) len cap hle]
        exact (did_ok hM h (.sl hg he hle hp hcp)).did
      | false =>
        rw [hn] at h
        have hv := isNil_false hn
        replace h := bb_some h; obtain ⟨hb, h⟩ := h
        rw [Bool.and_eq_true, ← hiby] at hb
        have hb1 := Nat.le_of_ble_eq_true hb.1
        have hb2 := Nat.le_of_ble_eq_true hb.2
        have hq : 0 < q := by
          rcases Nat.eq_zero_or_pos q with rfl | hq
          · have := hs.n; simp at this; subst this; simp at hlen; exact absurd hlen hv
          · exact hq
        replace h := capK_some' hM hg he hcp h; obtain ⟨c, ex, h, hcc, hc1, hc2, hc3, hc4⟩ := h
        have hcapsz : x.base + off + cap * i.size ≤ x.size := by
          cases lim with
          | none => exact Nat.le_of_eq hcp
          | some c' => exact hcp.2
        cases hroom : Nat.ble (len + q) c with
        | true =>
          rw [hroom] at h
          have hroom := Nat.le_of_ble_eq_true hroom
          replace h := cellsAt_some h; obtain ⟨k, ex', cs, hid, h⟩ := h
          replace h := bb_some h; obtain ⟨hb, h⟩ := h
          have hb := Nat.le_of_ble_eq_true hb
          obtain ⟨c', hc', h⟩ := writeK_some h
          rw [T.setK_set] at h
          have hmul : (len + q) * i.size = len * i.size + q * i.size := Nat.add_mul _ _ _
          obtain ⟨h2, h3, cells, ty', fr, h4, h5, h6, h7⟩ := write_ok hM hid hg hs.rep hs.one (by rw [hlen, hs.n]; omega) hc'
          have hp := hp (by omega)
          subst hp
          rw [app_room ht hu hi hs x.blk (x.base + off) len cap (by omega) h4 h5 (by omega), Nat.add_assoc]
          exact ⟨_, _, _, _, _, _, h, rfl, .sl hg he (by omega) (fun _ => rfl) hcp, h2, h3⟩
        | false =>
          rw [hroom] at h
          have hroom : c < len + q := by
            rcases Nat.lt_or_ge c (len + q) with h | h
            · exact h
            · have := Nat.ble_eq_true_of_le h; rw [hroom] at this; cases this
          replace h := cellsAt_some h; obtain ⟨k, ex', cs, hid, h⟩ := h
          replace h := readK_some h; obtain ⟨ws, hwl, hws, h⟩ := h
          obtain ⟨y', hy', hbr⟩ := hM.rep id _ hid
          obtain rfl : x = y' := by rw [hg] at hy'; injection hy'
          obtain ⟨olds, o1, o2, o3, o4, o5⟩ := read_rep hbr hwl hws
          -- a new block
          have grown : ∀ (M1 : Mm), RM w0 g M1 n w → Mv g M w g M1 w → growK M1 n i.size len q ws vs K = some r → cap < len + q → Did w0 g M w K r ((Builtin.append_ #[t, u] ty #[.slice (some p) len cap, cy]).run P w) := fun M1 hM1 hmv h hlt => by
            obtain ⟨c', hc', h⟩ := growK_some h
            have holds : (Builtin.firstCells i.size len (.slice (some p) len cap)).run P w.drew = .ok olds.toArray w.drew := by
              by_cases h0 : len = 0
              · subst h0
                have : olds = [] := List.eq_nil_of_length_eq_zero (by omega)
                subst this
                exact run_firstCells_some (P := P) w.drew i.size 0 p 0 cap [] (by simp) (by simp)
              · have hp := hp (by omega)
                subst hp
                exact run_firstCells_some (P := P) w.drew i.size len _ len cap olds o3 fun j v hj => by rw [addr_add, Ev.cell_at]; exact o4 j v hj
            rw [app_grow ht hu hi hz hs p len cap olds holds hlt hb1 hb2]
            have hcap := grownCap_ge w (len + q) cap e
            have hsz : (olds.toArray ++ cvs.toArray ++ Builtin.zeroCells z.cells (grownCap w (len + q) cap e - (len + q))).size = grownCap w (len + q) cap e * i.size := by
              rw [Array.size_append, Array.size_append, List.size_toArray, List.size_toArray, size_zeroCells, hzs, hs.n, o3, ← Nat.add_mul, ← Nat.add_mul]; congr 1; omega
            obtain ⟨h2, h3⟩ := cells_alloc (w1 := w.drew) (ex := false) (vs := ws ++ vs) (c := c') (cells := olds.toArray ++ cvs.toArray ++ Builtin.zeroCells z.cells (grownCap w (len + q) cap e - (len + q))) (ty := e) hM1 rfl rfl rfl rfl (o1.append hs.rep)
              (fun v hv => by rcases List.mem_append.1 hv with hv | hv; exact o2 v hv; exact hs.one v hv) hc'
              (fun j u hj => by
                rw [Array.getElem?_append_left (by simpa using (List.getElem?_eq_some_iff.1 hj).1)]
                rw [List.append_toArray]
                simpa using hj) (by rw [hsz, List.length_append, hwl, hlen, hs.n, ← Nat.add_mul]; exact Nat.mul_le_mul_right _ hcap) (by simp)
            refine ⟨_, _, _, _, _, _, h, rfl, ?_, h2, hmv.trans h3⟩
            exact .sl (x := ⟨w.heap.size, 0, _⟩) updG_new hipos hcap (fun _ => rfl) (by show 0 + 0 + grownCap w (len + q) cap e * i.size = _; rw [hsz]; dsimp only; omega)
          cases ex with
          | true =>
            have := hc3 rfl
            exact grown M hM (.refl g M w) h (by omega)
          | false =>
            replace h := bb_some h; obtain ⟨hb, h⟩ := h
            rw [Nat.beq_eq] at hb
            rw [T.setK_set] at h
            have hdrop : ∀ id' c', (M.set id none).get id' = some c' → M.get id' = some c' := fun id' c' h' => by
              rcases T.get_set h' with ⟨_, h2⟩ | ⟨_, h2⟩
              · cases h2
              · exact h2
            obtain ⟨rfl, _⟩ := hc4 rfl
            have hcp' : x.base + off + cap * i.size = x.size := hcp
            by_cases hin : len + q ≤ cap
            · -- in place
              obtain ⟨c', hc', h⟩ := growK_some h
              have hp := hp (by omega)
              subst hp
              obtain ⟨cs0, ty0, fr0, b1, b2, b3, b4, b5, b6⟩ := hbr
              have hfit : len * i.size + q * i.size ≤ cap * i.size := by rw [← Nat.add_mul]; exact Nat.mul_le_mul_right _ hin
              have hcvs := hs.n
              obtain ⟨cells', s1, s2, s3, s4, s5, s6, s7, s8⟩ := Ev.setCells_is cvs (x.base + off + len * i.size) w cs0 b1 (by omega)
              rw [app_room ht hu hi hs x.blk (x.base + off) len cap hin b1 b3 (by omega)]
              have hpre : (cs0.toList.take (x.base + off + len * i.size)).length = x.base + off + len * i.size := by rw [List.length_take, Array.length_toList]; omega
              have hmv := hM.move (x' := ⟨x.blk, x.base + off, x.size⟩) (b' := .cells (ws ++ vs).length false c') hid hg rfl s4 s5 ⟨cells', ty0, fr0, s1, by show cells'.size = x.size; omega, by rw [s3]; exact b3, by
                  show x.base + off + (ws ++ vs).length ≤ x.size
                  rw [List.length_append, hwl, hlen, hcvs]; omega, by simp, fun j v hj => by
                have hj := hc' j v hj
                obtain ⟨cv, hcv, hr⟩ := (o1.append hs.rep).get hj
                have hjl : j < len * i.size + q * i.size := by have := (List.getElem?_eq_some_iff.1 hj).1; rw [List.length_append, hwl, hlen, hcvs] at this; exact this
                refine ⟨(List.getElem?_eq_some_iff.1 hj).1, by rcases List.mem_append.1 (List.mem_of_getElem? hj) with h' | h'; exact o2 v h'; exact hs.one v h', cv, ?_, hr.mono (hM.sub _)⟩
                show cells'[x.base + off + j]? = some cv
                rw [← Array.getElem?_toList, s2]
                by_cases hjo : j < len * i.size
                · rw [List.getElem?_append_left (by omega)] at hcv
                  rw [List.getElem?_append_left (by omega), List.getElem?_take, if_pos (by omega), Array.getElem?_toList]
                  have := o4 j cv hcv
                  unfold Ev.cellAt at this
                  rw [b1] at this
                  exact this
                · rw [List.getElem?_append_right (by omega)] at hcv
                  rw [List.getElem?_append_right (by omega), hpre, List.getElem?_append_left (by omega)]
                  rw [show x.base + off + j - (x.base + off + len * i.size) = j - olds.length by omega]; exact hcv⟩ s7 s6 s8
              refine ⟨_, _, _, _, _, _, h, rfl, ?_, hmv.1, hmv.2⟩
              exact .sl (x := ⟨x.blk, x.base + off, x.size⟩) updG_new he (by omega) (fun _ => rfl) (by show x.base + off + 0 + cap * i.size = x.size; omega)
            · exact grown _ (hM.drop hdrop) ⟨.refl g, Nat.le_refl _, fun _ _ _ => rfl, fun id' x' c' h1 h2 _ => ⟨id', x', c', hdrop _ _ h1, h2, rfl⟩, fun _ _ => rfl, Nat.le_refl _⟩ h (by omega)
  · cases h
end Go.Eb

/-
The closed evaluator: copy, clear, make; literals.
-/
set_option linter.unusedVariables false
set_option linter.unusedSimpArgs false
namespace Go.Eb
open Go.Ev (szT byT aggO offT fszT TK kindT elemK zok LK leavesT kind_slice kind_array kind_str kind_int run_sizeOf szT_info addr_add At zok_is)
variable {A : Type} {P : Program} {w0 : World} {g : Env} {F : Fr} {M : Mm} {n m : Nat} {a : Act} {w : World} {K : V → Mm → Nat → Option A} {r : A}

theorem flat_rep_get {α : Type} (zs : List α) : ∀ (k j : Nat), j < k * zs.length → (List.replicate k zs).flatten[j]? = zs[j % zs.length]?
  | 0, j, h => by simp at h
  | k + 1, j, h => by
    rw [List.replicate_succ, List.flatten_cons]
    by_cases hj : j < zs.length
    · rw [List.getElem?_append_left hj, Nat.mod_eq_of_lt hj]
    · rw [List.getElem?_append_right (by omega), flat_rep_get zs k (j - zs.length) (by rw [Nat.add_mul] at h; omega), ← Nat.mod_eq_sub_mod (by omega)]
theorem flat_rep_len {α : Type} (zs : List α) (k : Nat) : (List.replicate k zs).flatten.length = k * zs.length := by simp
/-- A zero value many times over. -/
theorem zeros_rep {zs : List V} {z : Value} (hr : RepL g zs z.cells.toList) (k : Nat) (hz : 0 < zs.length) : RepL g (List.replicate k zs).flatten ((Array.range (k * z.cells.size)).map (z.cells[· % z.cells.size]!)).toList := by
  have hl := hr.length
  have hl' : zs.length = z.cells.size := by rw [hl]; exact Array.length_toList
  refine RepL.of_get (by simp [hl']) fun i v hi => ?_
  have hik : i < k * zs.length := by rw [← flat_rep_len]; exact (List.getElem?_eq_some_iff.1 hi).1
  rw [flat_rep_get zs k i hik] at hi
  obtain ⟨cv, hcv, h⟩ := hr.get hi
  refine ⟨cv, ?_, h⟩
  have hm : i % z.cells.size < z.cells.size := Nat.mod_lt _ (by omega)
  rw [hl', Array.getElem?_toList] at hcv
  rw [hl'] at hik
  have : z.cells[i % z.cells.size]! = cv := by rw [getElem!_def, hcv]
  simp [hik, this]
theorem zeros_ones {zs : List V} (h1 : ∀ v ∈ zs, c1 v = true) (k : Nat) : ∀ v ∈ (List.replicate k zs).flatten, c1 v = true := fun v hv => by
  obtain ⟨l, hl, hv⟩ := List.mem_flatten.1 hv
  rw [(List.mem_replicate.1 hl).2] at hv
  exact h1 v hv

theorem copyB_did (hM : RM w0 g M n w) {t u ty e : TypeId} {x y : V} {cx cy : Value} (hk : elemK (kindT P t) = some e) (hx : Rep g x cx) (hy : Rep g y cy) (h : copyB P M n e x y K = some r) :
    Did w0 g M w K r ((Builtin.copy_ #[t, u] ty #[cx, cy]).run P w) := by
  have ht : P.underlying t = some (.slice e) := by
    unfold elemK at hk
    split at hk
    · rename_i e' h'; injection hk with hk; subst hk; exact kind_slice h'
    · cases hk
  unfold copyB at h
  split at h
  · rename_i id off z len lim
    replace h := bb_some h; obtain ⟨hz, h⟩ := h
    simp only [Bool.and_eq_true, Nat.beq_eq, Nat.blt_eq] at hz
    obtain ⟨rfl, hpos⟩ := hz
    replace h := srcK_some (P := P) hM hy h; obtain ⟨q, vs, cvs, h, hs⟩ := h
    replace h := cellsAt_some h; obtain ⟨k, ex, c, hid, h⟩ := h
    replace h := bb_some h; obtain ⟨hb, h⟩ := h
    have hb := Nat.le_of_ble_eq_true hb
    replace h := writeK_some h; obtain ⟨c', hc', h⟩ := h
    rw [T.setK_set, kN_eq] at h
    obtain ⟨i, hi⟩ := szT_info hpos
    have his : i.size = szT P e := by simp [szT, hi]
    have hlen := hs.rep.length
    have hq := hs.n
    have hmin : Nat.min q len ≤ q := Nat.min_le_left _ _
    have hmin' : Nat.min q len ≤ len := Nat.min_le_right _ _
    have hm1 : Nat.min q len * szT P e ≤ q * szT P e := Nat.mul_le_mul_right _ hmin
    have hm2 : Nat.min q len * szT P e ≤ len * szT P e := Nat.mul_le_mul_right _ hmin'
    have htk : (vs.take (Nat.min q len * szT P e)).length = Nat.min q len * szT P e := by rw [List.length_take]; omega
    cases hx with | @sl _ _ _ _ cap _ x p hg he hle hp hcp =>
      obtain ⟨h2, h3, cells, ty', fr, h4, h5, h6, h7⟩ := write_ok hM hid hg (hs.rep.take (Nat.min q len * szT P e)) (fun v hv => hs.one v (List.mem_of_mem_take hv)) (by omega) hc'
      have hfc := hs.some w (Nat.min q len) rfl hmin
      have hp' : 0 < len → p = ⟨x.blk, x.base + off, none⟩ := fun h0 => hp (by omega)
      by_cases h0 : Nat.min q len = 0
      · have hrun : (Builtin.copy_ #[t, u] ty #[.slice (some p) len cap, cy]).run P w = .ok (.int .i64 ((Nat.min q len : Nat) : Int)) w := by
          rw [h0] at hfc ⊢
          simp only [Nat.zero_mul, List.take_zero] at hfc
          simp [Builtin.copy_, run_underlying ht, run_sizeOf hi, his, hs.len, h0, hfc, storeCells, goInt]
        rw [h0] at h2 h3
        simp only [Nat.zero_mul, List.take_zero, World.setCells] at h2 h3
        exact ⟨_, _, _, _, _, _, h, hrun, .int _ _, h2, h3⟩
      · have hp'' := hp' (by omega)
        subst hp''
        have hst := run_storeCells_cells (P := P) x.blk (x.base + off) (cvs.take (Nat.min q len * szT P e)) 0 w (fun j hj => by
            rw [Ev.cell_at]; unfold Ev.cellAt; rw [h4]
            show (cells[x.base + off + 0 + j]?).isSome = true
            simp; omega) (fun j hj => by
            unfold World.frozen?
            rw [h4]
            have := h5 (x.base + off + 0 + j) (by omega)
            simp only [Bool.and_eq_false_iff, decide_eq_false_iff_not]
            omega) (fun u hu => hs.rep.ones hs.one u (List.mem_of_mem_take hu))
        have hrun : (Builtin.copy_ #[t, u] ty #[.slice (some ⟨x.blk, x.base + off, none⟩) len cap, cy]).run P w = .ok (.int .i64 ((Nat.min q len : Nat) : Int)) (w.setCells x.blk (x.base + off) (cvs.take (Nat.min q len * szT P e))) := by
          simp only [Nat.add_zero] at hst
          simp [Builtin.copy_, run_underlying ht, run_sizeOf hi, his, hs.len, hfc, hst, goInt]
        exact ⟨_, _, _, _, _, _, h, hrun, .int _ _, h2, h3⟩
  · cases h

theorem clearB_did (hM : RM w0 g M n w) {t ty : TypeId} {x : V} {cx : Value} (hx : Rep g x cx) (h : clearB P M n t x K = some r) : Did w0 g M w K r ((Builtin.clear_ #[t] ty #[cx]).run P w) := by
  unfold clearB at h
  split at h
  · rename_i e hk
    cases hx
    exact (show (Builtin.clear_ #[t] ty #[.slice none 0 0]).run P w = .ok (.tuple #[]) w by simp [Builtin.clear_, run_underlying (kind_slice hk)]) ▸ (did_ok hM h (.tup .nil)).did
  · rename_i e id off z len lim hk
    have hu := kind_slice hk
    cases hx with | @sl _ _ _ _ cap _ x p hg he hle hp hcp =>
      cases hl0 : Nat.beq len 0 with
      | true =>
        rw [hl0] at h
        obtain rfl : len = 0 := by rwa [Nat.beq_eq] at hl0
        exact (show (Builtin.clear_ #[t] ty #[.slice (some p) 0 cap]).run P w = .ok (.tuple #[]) w by simp [Builtin.clear_, run_underlying hu]) ▸ (did_ok hM h (.tup .nil)).did
      | false =>
        rw [hl0] at h
        replace h := ob_some h; obtain ⟨zv, hzv, h⟩ := h
        replace h := ob_some h; obtain ⟨zs, hzs, h⟩ := h
        replace h := bb_some h; obtain ⟨hz, h⟩ := h
        simp only [Bool.and_eq_true, Nat.beq_eq, Nat.blt_eq] at hz
        obtain ⟨rfl, hpos⟩ := hz
        replace h := cellsAt_some h; obtain ⟨k, ex, c, hid, h⟩ := h
        replace h := bb_some h; obtain ⟨hb, h⟩ := h
        have hb := Nat.le_of_ble_eq_true hb
        replace h := writeK_some h; obtain ⟨c', hc', h⟩ := h
        rw [T.setK_set] at h
        obtain ⟨i, zc, hi, hiz, hrz⟩ := zeroV_rep (P := P) (g := g) hzv
        obtain ⟨hr, h1⟩ := cellsO_rep hzs hrz
        have hrl := zeros_rep hr len hpos
        have hzl : zs.length = zc.cells.size := by rw [hr.length]; exact Array.length_toList
        obtain ⟨h2, h3, cells, ty', fr, h4, h5, h6, h7⟩ := write_ok hM hid hg hrl (zeros_ones h1 len) (by rw [flat_rep_len]; exact hb) hc'
        rw [flat_rep_len] at h6
        have hlen' : 0 < len := Nat.pos_of_ne_zero (fun e => by subst e; cases hl0)
        have hp' := hp (by omega)
        subst hp'
        have hst := run_storeCells_cells (P := P) x.blk (x.base + off) ((Array.range (len * zc.cells.size)).map (zc.cells[· % zc.cells.size]!)).toList 0 w (fun j hj => by
            rw [Ev.cell_at]; unfold Ev.cellAt; rw [h4]
            rw [h7, flat_rep_len] at hj
            show (cells[x.base + off + 0 + j]?).isSome = true
            simp; omega) (fun j hj => by
            unfold World.frozen?
            rw [h4]
            rw [h7, flat_rep_len] at hj
            have := h5 (x.base + off + 0 + j) (by omega)
            simp only [Bool.and_eq_false_iff, decide_eq_false_iff_not]
            omega) (hrl.ones (zeros_ones h1 len))
        have hrun : (Builtin.clear_ #[t] ty #[.slice (some ⟨x.blk, x.base + off, none⟩) len cap]).run P w = .ok (.tuple #[]) (w.setCells x.blk (x.base + off) ((Array.range (len * zc.cells.size)).map (zc.cells[· % zc.cells.size]!)).toList) := by
          simp only [Nat.add_zero] at hst
          obtain ⟨len', rfl⟩ : ∃ l, len = l + 1 := ⟨len - 1, by omega⟩
          simp only [Builtin.clear_, Sem.run_bind, run_underlying hu, Result.andThen_ok, List.getElem?_toArray, List.getElem?_cons_zero, zeroValue, typeInfo, run_program, hi, Sem.run_pure, hiz, Builtin.zeroCells, hst]
        exact ⟨_, _, _, _, _, _, h, hrun, .tup .nil, h2, h3⟩
  · cases h
end Go.Eb

/-
The closed evaluator: make; literals; conversions.
-/
set_option linter.unusedVariables false
set_option linter.unusedSimpArgs false
namespace Go.Eb
open Go.Ev (szT byT aggO offT fszT TK kindT elemK zok LK leavesT kind_slice kind_array kind_str kind_int run_sizeOf szT_info addr_add At zok_is)
variable {A : Type} {P : Program} {w0 : World} {g : Env} {F : Fr} {M : Mm} {n m : Nat} {a : Act} {w : World} {K : V → Mm → Nat → Option A} {r : A}

theorem elem_und {t e : TypeId} (hk : elemK (kindT P t) = some e) : P.underlying t = some (.slice e) := by
  unfold elemK at hk
  split at hk
  · rename_i e' h'; injection hk with hk; subst hk; exact kind_slice h'
  · cases hk

theorem makeSliceB_did (hM : RM w0 g M n w) {t e : TypeId} {l c : V} {cl cc : Value} (hk : elemK (kindT P t) = some e) (hl : Rep g l cl) (hc : Rep g c cc) (h : makeSliceB P M n e l c K = some r) : Did w0 g M w K r ((Instr.makeSlice t cl cc).run P w) := by
  have ht := elem_und hk
  unfold makeSliceB at h
  split at h
  · rename_i kl l kc c
    replace h := bb_some h; obtain ⟨hb, h⟩ := h
    simp only [Bool.and_eq_true] at hb
    obtain ⟨⟨⟨hzk, h1⟩, h2⟩, h3⟩ := hb
    have h1 := Nat.le_of_ble_eq_true h1
    have h2 := Nat.le_of_ble_eq_true h2
    have h3 := Nat.le_of_ble_eq_true h3
    replace h := ob_some h; obtain ⟨zv, hzv, h⟩ := h
    replace h := ob_some h; obtain ⟨zs, hzs, h⟩ := h
    replace h := newCells_some h; obtain ⟨cc', hcc, h⟩ := h
    obtain ⟨i, z, hi, hz, hzsz, hipos, hisz, hiby⟩ := zok_is hzk
    obtain ⟨i', z', hi', hz', hrz⟩ := zeroV_rep (P := P) (g := g) hzv
    obtain rfl : i = i' := by rw [hi] at hi'; injection hi'
    obtain rfl : z = z' := by rw [hz] at hz'; injection hz'
    obtain ⟨hr, h1c⟩ := cellsO_rep hzs hrz
    have hzl : zs.length = z.cells.size := by rw [hr.length]; exact Array.length_toList
    cases hl; cases hc
    have hrun := run_make (P := P) w t e i z ht hi hz kl kc (Int.ofNat l) (Int.ofNat c) (Int.natCast_nonneg l) (Int.ofNat_le.2 h1) (by
      have : ((c * i.bytes : Nat) : Int) ≤ 281474976710656 := by rw [hiby]; omega
      rw [Nat.mul_comm] at this
      simpa using this) (by show (c : Int) ≤ _; omega)
    rw [hrun]
    simp only [natOf]
    have hzr := zeros_rep hr c (by omega)
    rw [hzsz] at hzr
    obtain ⟨g2, g3⟩ := cells_alloc (w1 := w) (ex := true) (vs := (List.replicate c zs).flatten) (c := cc') (cells := madeCells z.cells (c * i.size)) (ty := e) hM rfl rfl rfl rfl hzr (zeros_ones h1c c) hcc
      (fun j u hj => by rw [Array.getElem?_toList] at hj; unfold madeCells; rw [hzsz]; exact hj) (by rw [size_madeCells, flat_rep_len, hzl, hzsz]; exact Nat.le_refl _) (fun _ => by rw [size_madeCells, flat_rep_len, hzl, hzsz])
    refine ⟨_, _, _, _, _, _, h, rfl, ?_, g2, g3⟩
    exact .sl (x := ⟨w.heap.size, 0, _⟩) updG_new (by omega) h1 (fun _ => rfl) (by show 0 + 0 + c * szT P e = _; dsimp only; rw [size_madeCells, hisz]; omega)
  · cases h

/-! ### Literals -/
/-- A trie of cells and the cells. -/
def Cells (g : Env) (c : T V) (cells : List Value) : Prop := ∀ j u, c.get j = some u → c1 u = true ∧ ∃ cv, cells[j]? = some cv ∧ Rep g u cv
theorem fillK_some {place : Nat → Option (Nat × Nat)} {place' : Nat → Option (Nat × Nat)} (hpl : ∀ f q, place f = some q → place' f = some q) : ∀ {ps : List (Nat × Operand)} {q : Nat} {c : T V} {K : T V → Option A} {cells : Array Value}, EvR g F a (ps.map (·.2)) →
    fillK F place q c ps K = some r → Cells g c cells.toList → cells.size = q →
    ∃ c' cells', K c' = some r ∧ Instr.fill place' cells (ps.map fun p => (p.1, a.eval p.2)) = some cells' ∧ Cells g c' cells'.toList ∧ cells'.size = q
  | [], q, c, K, cells, hF, h, hc, hq => ⟨c, cells, h, rfl, hc, hq⟩
  | p :: ps, q, c, K, cells, hF, h, hc, hq => by
    have h : ob (opnd F p.2) (fun v => ob (cellsO v) fun vs => ob (place p.1) fun q' => bb (Nat.beq vs.length q'.2 && Nat.ble (q'.1 + q'.2) q) (writeK c q'.1 vs fun c => fillK F place q c ps K)) = some r := h
    replace h := ob_some h; obtain ⟨v, hv, h⟩ := h
    replace h := ob_some h; obtain ⟨vs, hvs, h⟩ := h
    replace h := ob_some h; obtain ⟨⟨off, size⟩, hpl', h⟩ := h
    replace h := bb_some h; obtain ⟨hb, h⟩ := h
    simp only [Bool.and_eq_true, Nat.beq_eq] at hb
    obtain ⟨hb1, hb2⟩ := hb
    have hb2 := Nat.le_of_ble_eq_true hb2
    dsimp only at hb1 hb2 h
    replace h := writeK_some h; obtain ⟨c', hc', h⟩ := h
    obtain ⟨hr, h1⟩ := cellsO_rep hvs (hF p.2 (by simp) _ hv)
    have hlen : vs.length = (a.eval p.2).cells.size := by rw [hr.length]; exact Array.length_toList
    have hfo := Ev.fill_one (rest := ps.map fun p => (p.1, a.eval p.2)) (cells := cells) (v := a.eval p.2) (hpl _ _ hpl') (by omega) (by omega)
    have hpre : (cells.toList.take off).length = off := by rw [List.length_take, Array.length_toList]; omega
    have hcl : ((a.eval p.2).cells.toList).length = size := by rw [Array.length_toList]; omega
    obtain ⟨c2, cells2, h2, h3, h4, h5⟩ := fillK_some hpl (cells := (cells.toList.take off ++ ((a.eval p.2).cells.toList ++ cells.toList.drop (off + size))).toArray) (hF.sub fun y hy => by rw [List.map_cons]; exact List.mem_cons_of_mem _ hy) h (fun j u hj => by
      rcases hc' j u hj with ⟨g1, g2⟩ | ⟨g1, g2⟩
      · obtain ⟨cv, hcv, hr'⟩ := hr.get g2
        have hjl : j - off < vs.length := (List.getElem?_eq_some_iff.1 g2).1
        refine ⟨h1 _ (List.mem_of_getElem? g2), cv, ?_, hr'⟩
        simp only [List.toList_toArray]
        rw [List.getElem?_append_right (by omega), hpre, List.getElem?_append_left (by omega)]
        exact hcv
      · obtain ⟨g3, cv, g4, g5⟩ := hc j u g2
        refine ⟨g3, cv, ?_, g5⟩
        simp only [List.toList_toArray]
        rcases g1 with g1 | g1
        · rw [List.getElem?_append_left (by omega), List.getElem?_take, if_pos g1]; exact g4
        · rw [List.getElem?_append_right (by omega), hpre, List.getElem?_append_right (by omega), List.getElem?_drop, show off + size + (j - off - ((a.eval p.2).cells.toList).length) = j by omega]; exact g4) (by
      have hd : (cells.toList.drop (off + size)).length = q - (off + size) := by rw [List.length_drop, Array.length_toList]; omega
      simp only [List.size_toArray, List.length_append, hpre, hcl, hd]; omega)
    exact ⟨c2, cells2, h2, by rw [List.map_cons, hfo]; exact h3, h4, h5⟩

theorem buildB_did (hM : RM w0 g M n w) {t : TypeId} {ps : List (Nat × Operand)} (hF : EvR g F a (ps.map (·.2))) (h : buildB P F M n t ps K = some r) : DidS w0 g M n w K r ((Instr.build t (ps.map fun p => (p.1, a.eval p.2)).toArray).run P w) := by
  unfold buildB at h
  replace h := ob_some h; obtain ⟨z, hz, h⟩ := h
  split at h
  · rename_i zs
    replace h := bb_some h; obtain ⟨hfo, h⟩ := h
    replace h := writeK_some h; obtain ⟨c, hc, h⟩ := h
    obtain ⟨i, zv, hi, hzi, hrz⟩ := zeroV_rep (P := P) (g := g) hz
    unfold Ev.fieldsOk at hfo
    split at hfo
    · rename_i fds hu
      cases hrz with | @agg _ zvs hrz h1 =>
        have hzl : zs.length = zvs.size := by rw [hrz.length]; exact Array.length_toList
        have hpl : ∀ f q, placeS P t f = some q → (fds.map fun f => (f.offset, szT P f.type))[f]? = some q := fun f q hq => by
          unfold placeS at hq
          split at hq
          · rename_i o ho
            injection hq with hq; subst hq
            obtain ⟨fs', x, hu', hx, hxo, hfs, hpos⟩ := Ev.offT_is ho
            obtain rfl : fs' = fds := by rw [hu] at hu'; injection hu' with h; injection h with h; exact h.symm
            simp [hx, hxo, hfs]
          · cases hq
        obtain ⟨c', cells', h2, h3, h4, h5⟩ := fillK_some hpl (cells := zvs) hF h (fun j u hj => by
          rcases hc j u hj with ⟨_, g2⟩ | ⟨_, g2⟩
          · rw [Nat.sub_zero] at g2
            obtain ⟨cv, hcv, hr'⟩ := hrz.get g2
            exact ⟨h1 _ (List.mem_of_getElem? g2), cv, hcv, hr'⟩
          · simp [T.get_e] at g2) hzl.symm
        obtain ⟨vs, hl, hg, h⟩ := readK_some h2
        have hplr := Ev.places_run (P := P) w fds.toList fun x hx => by
          have := List.all_eq_true.1 hfo x hx
          exact Option.isSome_iff_exists.1 this
        have hm : (fds.mapM (fun f => do pure (f.offset, ← sizeOf f.type)) : Sem (Array (Nat × Nat))).run P w = .ok (fds.map fun f => (f.offset, szT P f.type)) w := by
          rw [Array.mapM_eq_mapM_toList, Sem.run_map, hplr]
          simp only [Result.andThen_ok]
          congr 1
          apply Array.ext'
          simp
        have hrun : (Instr.build t (ps.map fun p => (p.1, a.eval p.2)).toArray).run P w = .ok (.agg cells') w := by
          simp only [Instr.build, Sem.run_bind, zeroValue, typeInfo, run_program, hi, Result.andThen_ok, Sem.run_pure, hzi, run_underlying hu, hm, Value.cells, List.toList_toArray, h3]
        rw [hrun]
        refine did_ok hM h (.agg (RepL.of_get (by rw [hl, ← h5]; exact Array.length_toList.symm) fun j v hv => ?_) fun v hv => ?_)
        · have := hg j v hv
          rw [Nat.zero_add] at this
          exact (h4 j v this).2
        · obtain ⟨j, hj⟩ := List.getElem?_of_mem hv
          have := hg j v hj
          rw [Nat.zero_add] at this
          exact (h4 j v this).1
    · cases hfo
  · cases h

theorem buildSliceB_did (hM : RM w0 g M n w) {t : TypeId} {len : Nat} {ps : List (Nat × Operand)} (hF : EvR g F a (ps.map (·.2))) (h : buildSliceB P F M n t len ps K = some r) :
    Did w0 g M w K r ((Instr.buildSlice t len (ps.map fun p => (p.1, a.eval p.2)).toArray).run P w) := by
  unfold buildSliceB at h
  split at h
  · rename_i e hk
    have hu := kind_slice hk
    replace h := bb_some h; obtain ⟨hb, h⟩ := h
    rw [Bool.and_eq_true] at hb
    obtain ⟨hzk, hb⟩ := hb
    have hb := Nat.le_of_ble_eq_true hb
    replace h := ob_some h; obtain ⟨zv, hzv, h⟩ := h
    replace h := ob_some h; obtain ⟨zs, hzs, h⟩ := h
    replace h := writeK_some h; obtain ⟨c, hc, h⟩ := h
    obtain ⟨i, z, hi, hz, hzsz, hipos, hisz, hiby⟩ := zok_is hzk
    obtain ⟨i', z', hi', hz', hrz⟩ := zeroV_rep (P := P) (g := g) hzv
    obtain rfl : i = i' := by rw [hi] at hi'; injection hi'
    obtain rfl : z = z' := by rw [hz] at hz'; injection hz'
    obtain ⟨hr, h1⟩ := cellsO_rep hzs hrz
    have hzl : zs.length = z.cells.size := by rw [hr.length]; exact Array.length_toList
    have hzr := zeros_rep hr len (by omega)
    have hsz : szT P e = z.cells.size := by rw [hzsz, hisz]
    obtain ⟨c', cells', h2, h3, h4, h5⟩ := fillK_some (place := placeR (szT P e)) (place' := fun i => some (i * szT P e, szT P e)) (fun f q hq => hq) (cells := (Array.range (len * z.cells.size)).map (z.cells[· % z.cells.size]!)) hF h (fun j u hj => by
      rcases hc j u hj with ⟨_, g2⟩ | ⟨_, g2⟩
      · rw [Nat.sub_zero] at g2
        obtain ⟨cv, hcv, hr'⟩ := hzr.get g2
        exact ⟨zeros_ones h1 len _ (List.mem_of_getElem? g2), cv, hcv, hr'⟩
      · simp [T.get_e] at g2) (by simp [hsz])
    rw [newB_eq] at h2
    have hnb : ¬ (len * szT P e > 2 ^ 24) := by omega
    have hrun : (Instr.buildSlice t len (ps.map fun p => (p.1, a.eval p.2)).toArray).run P w = .ok (.slice (some ⟨w.heap.size, 0, none⟩) len len) (w.alloc (.cells cells' e)) := by
      simp only [Instr.buildSlice, Sem.run_bind, run_underlying hu, Result.andThen_ok, run_sizeOf hi, hisz, if_neg hnb, Sem.run_ite]
      by_cases h0 : len * szT P e = 0
      · have hl0 : len = 0 := mul0 h0 (by omega)
        subst hl0
        simp only [Nat.zero_mul, if_true, Sem.run_pure, Result.andThen_ok] at h3 ⊢
        have : ((Array.range 0).map fun x => (#[] : Array Value)[x % (#[] : Array Value).size]!) = ((Array.range 0).map (z.cells[· % z.cells.size]!)) := by simp
        rw [this]
        simp only [List.toList_toArray, h3]
        simp [newRow]
      · simp only [h0, if_false, zeroValue, typeInfo, Sem.run_bind, run_program, Result.andThen_ok, hi, Sem.run_pure, hz]
        rw [hsz] at h3 ⊢
        simp only [List.toList_toArray, h3]
        simp [newRow]
    rw [hrun]
    have hx := hM.alloc (w1 := w) (.cells cells' e) rfl rfl rfl rfl (x := ⟨w.heap.size, 0, cells'.size⟩) (b := .cells (len * szT P e) true c') rfl ⟨cells', e, (0, 0), by simp, rfl, fun _ _ hk => absurd hk.2 (Nat.not_lt_zero _), by
        show 0 + len * szT P e ≤ cells'.size; omega, fun _ => by show 0 + len * szT P e = cells'.size; omega, fun j u hj => by
      obtain ⟨g1, cv, g2, g3⟩ := h4 j u hj
      have hjl : j < cells'.size := by have := (List.getElem?_eq_some_iff.1 g2).1; rwa [Array.length_toList] at this
      exact ⟨by omega, g1, cv, by rw [Nat.zero_add, ← Array.getElem?_toList]; exact g2, g3.mono (hM.sub _)⟩⟩
    refine ⟨_, _, _, _, _, _, h2, rfl, ?_, hx.1, hx.2⟩
    exact .sl (x := ⟨w.heap.size, 0, cells'.size⟩) updG_new (by omega) (Nat.le_refl _) (fun _ => rfl) (by show 0 + 0 + len * szT P e = cells'.size; omega)
  · cases h
end Go.Eb

/-
The closed evaluator: conversions, maps.
-/
set_option linter.unusedVariables false
set_option linter.unusedSimpArgs false
namespace Go.Eb
open Go.Ev (szT byT aggO offT fszT TK kindT elemK zok LK leavesT kind_slice kind_array kind_str kind_int run_sizeOf szT_info addr_add At zok_is lkT kind_key)
variable {A : Type} {P : Program} {w0 : World} {g : Env} {F : Fr} {M : Mm} {n m : Nat} {a : Act} {w : World} {K : V → Mm → Nat → Option A} {r : A}

theorem bytesK_some : ∀ {vs : List V} {K : List Nat → Option A} {cvs : List Value}, bytesK vs K = some r → RepL g vs cvs → ∃ l : List UInt8, K (l.map (·.toNat)) = some r ∧ cvs = l.map fun b => Value.int .u8 (b.toNat : Int)
  | [], K, cvs, h, hr => by cases hr; exact ⟨[], h, rfl⟩
  | v :: vs, K, cvs, h, hr => by
    obtain ⟨cv, cvs, rfl, h1, h2⟩ := hr.inv
    have h : ob (byteOf v) (fun c => bb (Nat.ble c 255) (bytesK vs fun l => K (c :: l))) = some r := h
    replace h := ob_some h; obtain ⟨c, hc, h⟩ := h
    replace h := bb_some h; obtain ⟨hb, h⟩ := h
    have hb := Nat.le_of_ble_eq_true hb
    obtain ⟨l, hl, rfl⟩ := bytesK_some h h2
    unfold byteOf at hc
    split at hc
    · rename_i c'
      injection hc with hc; subst hc
      cases h1
      refine ⟨UInt8.ofNat c' :: l, ?_, ?_⟩
      · have : (UInt8.ofNat c').toNat = c' := by rw [UInt8.toNat_ofNat']; omega
        simp only [List.map_cons, this]; exact hl
      · have : (UInt8.ofNat c').toNat = c' := by rw [UInt8.toNat_ofNat']; omega
        simp [this]
    · cases hc

theorem convB_did (hM : RM w0 g M n w) {src dst : TypeId} {x : V} {cx : Value} (hx : Rep g x cx) (h : convB P M n src dst x K = some r) : DidS w0 g M n w K r ((convert src dst cx).run P w) ∨ ((∃ e, kindT P dst = .slice e) ∧ Did w0 g M w K r ((convert src dst cx).run P w)) := by
  unfold convB at h
  split at h
  · rename_i k' k k'' q h1 h2
    cases hx
    rw [kI_eq] at h
    refine .inl ?_
    exact (show (convert src dst (.int k'' q)).run P w = .ok (.int k (k.wrap q)) w by simp [convert, run_underlying (kind_int h1), run_underlying (kind_int h2), Conv.intToInt]) ▸ did_ok hM h (.int _ _)
  · rename_i l h1 h2
    cases hx with | str e hs =>
      rename_i s
      refine .inl ?_
      exact (show (convert src dst (.string s)).run P w = .ok (.string s) w by simp [convert, run_underlying (kind_str h1), run_underlying (kind_str h2)]) ▸ did_ok hM h (.str e hs)
  · rename_i e l h1 h2
    cases hx with | str el hs =>
      rename_i s
      subst el
      split at h
      · rename_i h3
        replace h := newCells_some h; obtain ⟨c, hc, h⟩ := h
        rw [run_bytes_of_string w src dst e s (kind_str h1) (kind_slice h2) (kind_int h3)]
        have hcap := grownCap_ge w s.size 0 e
        have hl : ((natsOf s).map fun c => V.int .u8 (.ofNat c)).length = s.size := by rw [List.length_map, natsOf_length]
        have hsz : (bytesRow s (grownCap w s.size 0 e)).size = grownCap w s.size 0 e := by
          unfold bytesRow
          rw [Array.size_append, Array.size_map, Array.size_replicate]
          show s.size + _ = _
          omega
        have hx := hM.alloc (w1 := w.drew) (.cells (bytesRow s (grownCap w s.size 0 e)) e ((bytesRow s (grownCap w s.size 0 e)).size, (bytesRow s (grownCap w s.size 0 e)).size + 1)) rfl rfl rfl rfl (x := ⟨w.heap.size, 0, grownCap w s.size 0 e⟩)
          (b := .cells ((natsOf s).map fun c => V.int .u8 (.ofNat c)).length false c) rfl ⟨bytesRow s (grownCap w s.size 0 e), e, ((bytesRow s (grownCap w s.size 0 e)).size, (bytesRow s (grownCap w s.size 0 e)).size + 1), by simp, hsz, fun k hk hk' => Nat.not_lt.2 hk'.1 hk, by show 0 + _ ≤ grownCap w s.size 0 e; omega, by simp, fun j u hj => by
            have hj := hc j u hj
            have hjl := (List.getElem?_eq_some_iff.1 hj).1
            rw [List.getElem?_map] at hj
            obtain ⟨c', hc', rfl⟩ := Option.map_eq_some_iff.1 hj
            refine ⟨hjl, rfl, .int .u8 (Int.ofNat c'), ?_, .int _ _⟩
            obtain ⟨g1, g2, g3⟩ := natsOf_get hc'
            rw [Nat.zero_add]
            unfold bytesRow
            rw [Array.getElem?_append_left (by rw [Array.size_map]; exact g1), Array.getElem?_map]
            have : s.data[j]? = some (s.data.toList.getD j 0) := by
              rw [← Array.getElem?_toList, List.getD_eq_getElem?_getD]
              cases hd : s.data.toList[j]? with
              | some b => rfl
              | none => rw [List.getElem?_eq_none_iff, size_list] at hd; omega
            rw [this, Option.map_some, g3]
            rfl⟩
        refine .inr ⟨⟨e, h2⟩, _, _, _, _, _, _, h, rfl, ?_, hx.1, hx.2⟩
        rw [natsOf_length]
        exact .sl (x := ⟨w.heap.size, 0, grownCap w s.size 0 e⟩) updG_new (by omega) hcap (fun _ => rfl) (by show 0 + 0 + grownCap w s.size 0 e * 1 = grownCap w s.size 0 e; omega)
      · cases h
  · rename_i e h1 h2
    cases hx
    split at h
    · rename_i h3
      have : (convert src dst (.slice none 0 0)).run P w = .ok (.string .empty) w := by
        rw [run_convert_bytes_string w src dst e none 0 0 (kind_slice h1) (kind_int h3) (kind_str h2)]
        simp [Conv.bytesToString]
      rw [this]
      exact .inl (did_ok hM h (.str rfl (by simp)))
    · cases h
  · rename_i e id off z len lim h1 h2
    split at h
    · rename_i h3
      replace h := bb_some h; obtain ⟨hz, h⟩ := h
      rw [Nat.beq_eq] at hz
      subst hz
      replace h := cellsAt_some h; obtain ⟨k, ex, c, hid, h⟩ := h
      replace h := bb_some h; obtain ⟨hb, h⟩ := h
      have hb := Nat.le_of_ble_eq_true hb
      replace h := readK_some h; obtain ⟨vs, hl, hgs, h⟩ := h
      cases hx with | @sl _ _ _ _ cap _ x p hg he hle hp hc =>
        obtain ⟨y, hy, hbr⟩ := hM.rep id _ hid
        obtain rfl : x = y := by rw [hg] at hy; injection hy
        obtain ⟨cvs, g1, g2, g3, g4, g5⟩ := read_rep hbr hl hgs
        obtain ⟨l, hK, rfl⟩ := bytesK_some h g1
        rw [List.length_map] at g3
        have hrun : (convert src dst (.slice (some p) len cap)).run P w = .ok (.string ⟨l.toArray⟩) w := by
          rw [← g3]
          refine run_convert_bytes_back w src dst e p cap l (kind_slice h1) (kind_int h3) (kind_str h2) fun j hj => ?_
          have hp := hp (by omega)
          subst hp
          rw [addr_add, Ev.cell_at]
          exact g4 j _ (by simp [hj])
        rw [hrun]
        exact .inl <| did_ok hM hK (.str (by simp [natsOf]) (by show l.toArray.size ≤ _; simp; omega))
    · cases h
  · cases h

/-! ### Maps -/
theorem eqK_ev {E : Ev.Env} {lk : LK} {x y : V} {cx cy : Value} {c : Bool} (h : eqK lk x y = some c) (hx : Rep g x cx) (hy : Rep g y cy) : Ev.eqK lk (toAV cx) (toAV cy) = some c ∧ Ev.Rep E (toAV cx) cx [] ∧ Ev.Rep E (toAV cy) cy [] := by
  have h1 : eqLK [lk] [x] [y] true (fun c => some c) = some c := by
    show ob (eqK lk x y) (fun c => match c with | true => some true | false => some false) = some c
    rw [h]
    cases c <;> rfl
  obtain ⟨d, h2, h3, h4, h5⟩ := eqLK_run (E := E) h1 (.cons hx .nil) (.cons hy .nil)
  simp only [Bool.true_and, Option.some.injEq] at h3
  subst h3
  simp only [List.map_cons, List.map_nil, Ev.eqLK, Option.bind_eq_some_iff, Option.map_eq_some_iff, Option.some.injEq] at h2
  obtain ⟨b, hb, b', rfl, rfl⟩ := h2
  obtain ⟨v, rfl', hv⟩ := h4.inv1
  obtain ⟨u, rfl'', hu⟩ := h5.inv1
  simp only [List.cons.injEq, and_true] at rfl' rfl''
  subst rfl' rfl''
  exact ⟨by simpa using hb, hv, hu⟩
theorem eqK_now {lk : LK} {x y : V} {cx cy : Value} {c : Bool} (h : eqK lk x y = some c) (hx : Rep g x cx) (hy : Rep g y cy) : Instr.sameNow (lkT lk) cx cy = some c ∧ (c = true → Instr.sameBits 10000 cy cx = true) := by
  obtain ⟨h1, h2, h3⟩ := eqK_ev (E := ⟨#[], fun _ _ => False, fun _ => none⟩) h hx hy
  exact Ev.eqK_now h2 h3 h1

theorem findK_now {lk : LK} {k : V} {ck : Value} (hk : Rep g k ck) : ∀ {es : List (V × V × Nat)} {ces : List MapEntry} {K : Option V → Option A} {i : Nat}, EntL g es ces → findK lk k es K = some r →
    (K none = some r ∧ Instr.findNow (lkT lk) ck ces i = some none) ∨ ∃ v j cv, K (some v) = some r ∧ Instr.findNow (lkT lk) ck ces i = some (some (j, cv)) ∧ Rep g v cv
  | [], ces, K, i, he, h => by cases he; exact .inl ⟨h, rfl⟩
  | e :: es, ces, K, i, he, h => by
    cases he with | @cons k' v' born ce _ ces h1 h2 h3 h4 =>
      have h : ob (eqK lk k k') (fun c => match c with
        | true => K (some v')
        | false => findK lk k es K) = some r := h
      replace h := ob_some h; obtain ⟨c, hc, h⟩ := h
      obtain ⟨hn, _⟩ := eqK_now hc hk h1
      cases c with
      | true => exact .inr ⟨v', i, ce.val, h, by simp [Instr.findNow, hn], h2⟩
      | false =>
        have := findK_now hk (i := i + 1) h4 h
        simpa [Instr.findNow, hn] using this

theorem mapT_some {t : TypeId} {q : LK × TypeId} (h : mapT P t = some q) : ∃ k, P.underlying t = some (.map k q.2) ∧ P.underlying k = some (lkT q.1) := by
  unfold mapT at h
  split at h
  · rename_i k e hk
    split at h
    · rename_i lk hlk
      injection h with h; subst h
      exact ⟨k, kind_map hk, kind_key hlk⟩
    · cases h
  · cases h

theorem lookupB_did (hM : RM w0 g M n w) {t : TypeId} {ok : Bool} {mv k : V} {cm ck : Value} (hm : Rep g mv cm) (hk : Rep g k ck) (h : lookupB P M n t mv k ok K = some r) : DidS w0 g M n w K r ((Instr.lookup t cm ck ok).run P w) := by
  unfold lookupB at h
  replace h := ob_some h; obtain ⟨q, hq, h⟩ := h
  replace h := ob_some h; obtain ⟨zv, hzv, h⟩ := h
  obtain ⟨kt, hu, hku⟩ := mapT_some hq
  obtain ⟨iz, z, hiz, hz, hrz⟩ := zeroV_rep (P := P) (g := g) hzv
  have hzr : (zeroValue q.2).run P w = .ok z w := by simp [zeroValue, typeInfo, hiz, hz]
  have out : ∀ {v : Option V} {u : V} {cu : Value}, lookOut ok zv v M n K = some r → v.getD zv = u → Rep g u cu → (Instr.lookup t cm ck ok).run P w = .ok (if ok = true then .tuple #[cu, .bool v.isSome] else cu) w → DidS w0 g M n w K r ((Instr.lookup t cm ck ok).run P w) := by
    intro v u cu h hv hr hrun
    rw [hrun]
    unfold lookOut at h
    split at h <;> (subst hv)
    · exact did_ok hM h (.tup (.cons hr (.cons (.bool _) .nil)))
    · exact did_ok hM h (.tup (.cons hr (.cons (.bool _) .nil)))
    · exact did_ok hM h hr
    · exact did_ok hM h hr
  split at h
  · cases hm
    refine out h rfl hrz ?_
    unfold Instr.lookup
    simp only [Sem.run_bind, run_underlying hu, Result.andThen_ok, Sem.run_pure, Ev.run_check hku, Ev.run_find (es := []) hku (r := none) rfl]
    cases ok <;> simp [hzr, Sem.run_bind]
  · replace h := mapAt_some h; obtain ⟨es, c, hid, h⟩ := h
    cases hm with | @mp _ x hg =>
      obtain ⟨y, hy, ces, h1, h2⟩ := hM.rep _ _ hid
      obtain rfl : x = y := by rw [hg] at hy; injection hy
      rcases findK_now hk (i := 0) h2 h with ⟨h, hn⟩ | ⟨v, j, cv, h, hn, hr⟩
      · refine out h rfl hrz ?_
        unfold Instr.lookup
        simp only [Sem.run_bind, run_underlying hu, Result.andThen_ok, MapKept.run_getObj_map h1, Sem.run_pure, Ev.run_check hku, Ev.run_find hku hn]
        cases ok <;> simp [hzr, Sem.run_bind]
      · refine out h rfl hr ?_
        unfold Instr.lookup
        simp only [Sem.run_bind, run_underlying hu, Result.andThen_ok, MapKept.run_getObj_map h1, Sem.run_pure, Ev.run_check hku, Ev.run_find hku hn]
        cases ok <;> simp [Sem.run_bind]
  · cases h

theorem putE_now {lk : LK} {k v : V} {ck cv : Value} (hk : Rep g k ck) (hv : Rep g v cv) {clock : Nat} : ∀ {es : List (V × V × Nat)} {ces : List MapEntry} {K : List (V × V × Nat) → Nat → Option A} {i : Nat}, EntL g es ces → putE lk k v clock es K = some r →
    (∃ es', K es' (clock + 1) = some r ∧ Instr.findNow (lkT lk) ck ces i = some none ∧ EntL g es' (ces ++ [{ key := ck, val := cv, born := clock }])) ∨
    (∃ es' j u, K es' clock = some r ∧ Instr.findNow (lkT lk) ck ces i = some (some (i + j, u)) ∧ (∃ e, ces[j]? = some e ∧ Instr.sameBits 10000 e.key ck = true) ∧ EntL g es' (ces.modify j fun e => { e with key := ck, val := cv }))
  | [], ces, K, i, he, h => by
    cases he
    exact .inl ⟨_, h, rfl, .cons hk hv rfl .nil⟩
  | e :: es, ces, K, i, he, h => by
    cases he with | @cons k' v' born ce _ ces h1 h2 h3 h4 =>
      have h : ob (eqK lk k k') (fun c => match c with
        | true => K ((k, v, born) :: es) clock
        | false => putE lk k v clock es fun es' c => K ((k', v', born) :: es') c) = some r := h
      replace h := ob_some h; obtain ⟨c, hc, h⟩ := h
      obtain ⟨hn, hsame⟩ := eqK_now hc hk h1
      cases c with
      | true => exact .inr ⟨_, 0, ce.val, h, by simp [Instr.findNow, hn], ⟨ce, rfl, hsame rfl⟩, .cons hk hv h3 h4⟩
      | false =>
        rcases putE_now hk hv (i := i + 1) h4 h with ⟨es', g1, g2, g3⟩ | ⟨es', j, u, g1, g2, g3, g4⟩
        · exact .inl ⟨_, g1, by simpa [Instr.findNow, hn] using g2, .cons h1 h2 h3 g3⟩
        · exact .inr ⟨_, j + 1, u, g1, by simp [Instr.findNow, hn, g2]; omega, by simpa using g3, .cons h1 h2 h3 g4⟩

/-- A map's block written. -/
theorem map_write (hM : RM w0 g M n w) {id : Nat} {es es' : List (V × V × Nat)} {c clock : Nat} {x : Lc} {ces : Array MapEntry} (hid : M.get id = some (.map es c)) (hg : g id = some x) (hr : EntL g es' ces.toList) :
    RM w0 g (M.set id (some (.map es' clock))) n { w with heap := w.heap.setIfInBounds x.blk (.map ces clock) } ∧ Mv g M w g (M.set id (some (.map es' clock))) { w with heap := w.heap.setIfInBounds x.blk (.map ces clock) } := by
  have hlt := (hM.lt id x hg).2.2
  refine hM.write (w' := { w with heap := w.heap.setIfInBounds x.blk (.map ces clock) }) (b' := .map es' clock) hid hg (fun k hk => ?_) (by simp) ⟨ces, ?_, hr⟩ rfl rfl rfl
  · show (w.heap.setIfInBounds x.blk _)[k]? = _
    rw [Array.getElem?_setIfInBounds, if_neg (fun e => hk e.symm)]
  · show (w.heap.setIfInBounds x.blk _)[x.blk]? = _
    rw [Array.getElem?_setIfInBounds, if_pos rfl, if_pos hlt]

theorem mapUpdateB_did (hM : RM w0 g M n w) {t : TypeId} {mv k v : V} {cm ck cv : Value} (hm : Rep g mv cm) (hk : Rep g k ck) (hv : Rep g v cv) (h : mapUpdateB P M n t mv k v K = some r) :
    ∃ M' n' w', K (.tup []) M' n' = some r ∧ (Instr.mapUpdate t cm ck cv).run P w = .ok () w' ∧ RM w0 g M' n' w' ∧ Mv g M w g M' w' := by
  unfold mapUpdateB at h
  split at h
  · replace h := ob_some h; obtain ⟨q, hq, h⟩ := h
    replace h := mapAt_some h; obtain ⟨es, c, hid, h⟩ := h
    obtain ⟨kt, hu, hku⟩ := mapT_some hq
    cases hm with | @mp _ x hg =>
      obtain ⟨y, hy, ces, h1, h2⟩ := hM.rep _ _ hid
      obtain rfl : x = y := by rw [hg] at hy; injection hy
      rcases putE_now hk hv (i := 0) h2 h with ⟨es', h, hn, h3⟩ | ⟨es', j, u, h, hn, ⟨e, he, hsb⟩, h3⟩
      · rw [T.setK_set] at h
        obtain ⟨g1, g2⟩ := map_write (clock := c + 1) (ces := ces.push { key := ck, val := cv, born := c }) hM hid hg (by simpa using h3)
        refine ⟨_, n, _, h, ?_, g1, g2⟩
        unfold Instr.mapUpdate
        simp only [Sem.run_bind, run_underlying hu, Result.andThen_ok, MapKept.run_getObj_map h1, Ev.run_check hku, Ev.run_find hku hn, MapKept.run_setObj_map _ h1]
      · rw [T.setK_set] at h
        rw [Nat.zero_add] at hn
        have hea : ces[j]? = some e := by rw [← Array.getElem?_toList]; exact he
        obtain ⟨g1, g2⟩ := map_write (clock := c) (ces := ces.modify j fun e => { e with key := ck, val := cv }) hM hid hg (by simpa using h3)
        refine ⟨_, n, _, h, ?_, g1, g2⟩
        unfold Instr.mapUpdate
        simp only [Sem.run_bind, run_underlying hu, Result.andThen_ok, MapKept.run_getObj_map h1, Ev.run_check hku, Ev.run_find hku hn, Instr.keyThatStays, hea, Option.map_some, Option.getD_some, hsb, if_true, Sem.run_pure, MapKept.run_setObj_map _ h1]
  · cases h

theorem delE_now {lk : LK} {k : V} {ck : Value} (hk : Rep g k ck) : ∀ {es : List (V × V × Nat)} {ces : List MapEntry} {K : List (V × V × Nat) → Option A} {i : Nat}, EntL g es ces → delE lk k es K = some r →
    (∃ es', K es' = some r ∧ Instr.findNow (lkT lk) ck ces i = some none ∧ EntL g es' ces) ∨ (∃ es' j u, K es' = some r ∧ Instr.findNow (lkT lk) ck ces i = some (some (i + j, u)) ∧ EntL g es' (ces.eraseIdx j))
  | [], ces, K, i, he, h => by cases he; exact .inl ⟨_, h, rfl, .nil⟩
  | e :: es, ces, K, i, he, h => by
    cases he with | @cons k' v' born ce _ ces h1 h2 h3 h4 =>
      have h : ob (eqK lk k k') (fun c => match c with
        | true => K es
        | false => delE lk k es fun es' => K ((k', v', born) :: es')) = some r := h
      replace h := ob_some h; obtain ⟨c, hc, h⟩ := h
      obtain ⟨hn, _⟩ := eqK_now hc hk h1
      cases c with
      | true => exact .inr ⟨_, 0, ce.val, h, by simp [Instr.findNow, hn], h4⟩
      | false =>
        rcases delE_now hk (i := i + 1) h4 h with ⟨es', g1, g2, g3⟩ | ⟨es', j, u, g1, g2, g3⟩
        · exact .inl ⟨_, g1, by simpa [Instr.findNow, hn] using g2, .cons h1 h2 h3 g3⟩
        · exact .inr ⟨_, j + 1, u, g1, by simp [Instr.findNow, hn, g2]; omega, .cons h1 h2 h3 g3⟩

theorem deleteB_did (hM : RM w0 g M n w) {t u ty : TypeId} {mv k : V} {cm ck : Value} (hm : Rep g mv cm) (hk : Rep g k ck) (h : deleteB P M n t mv k K = some r) : Did w0 g M w K r ((Builtin.delete_ #[t, u] ty #[cm, ck]).run P w) := by
  unfold deleteB at h
  split at h
  · replace h := ob_some h; obtain ⟨q, hq, h⟩ := h
    obtain ⟨kt, hu, hku⟩ := mapT_some hq
    cases hm
    exact (show (Builtin.delete_ #[t, u] ty #[.map none, ck]).run P w = .ok (.tuple #[]) w by simp [Builtin.delete_, run_underlying hu, Ev.run_check hku]) ▸ (did_ok hM h (.tup .nil)).did
  · replace h := ob_some h; obtain ⟨q, hq, h⟩ := h
    replace h := mapAt_some h; obtain ⟨es, c, hid, h⟩ := h
    obtain ⟨kt, hu, hku⟩ := mapT_some hq
    cases hm with | @mp _ x hg =>
      obtain ⟨y, hy, ces, h1, h2⟩ := hM.rep _ _ hid
      obtain rfl : x = y := by rw [hg] at hy; injection hy
      rcases delE_now hk (i := 0) h2 h with ⟨es', h, hn, h3⟩ | ⟨es', j, v, h, hn, h3⟩
      · rw [T.setK_set] at h
        obtain ⟨g1, g2⟩ := map_write (clock := c) (ces := ces) hM hid hg h3
        refine ⟨_, _, n, g, _, _, h, ?_, .tup .nil, g1, g2⟩
        simp only [Builtin.delete_, Sem.run_bind, run_underlying hu, Result.andThen_ok, List.getElem?_toArray, List.getElem?_cons_zero, List.getElem?_cons_succ, MapKept.run_getObj_map h1, Ev.run_check hku, Ev.run_find hku hn, MapKept.run_setObj_map _ h1, Sem.run_pure]
      · rw [T.setK_set] at h
        rw [Nat.zero_add] at hn
        obtain ⟨g1, g2⟩ := map_write (clock := c) (ces := ces.eraseIdxIfInBounds j) hM hid hg (by
          rw [Array.toList_eraseIdxIfInBounds]; exact h3)
        refine ⟨_, _, n, g, _, _, h, ?_, .tup .nil, g1, g2⟩
        simp only [Builtin.delete_, Sem.run_bind, run_underlying hu, Result.andThen_ok, List.getElem?_toArray, List.getElem?_cons_zero, List.getElem?_cons_succ, MapKept.run_getObj_map h1, Ev.run_check hku, Ev.run_find hku hn, MapKept.run_setObj_map _ h1, Sem.run_pure]
  · cases h

theorem makeMap_did (hM : RM w0 g M n w) {s : Sem Value} (hs : s.run P w = .ok (.map (some w.heap.size)) (w.alloc (.map #[] 0))) (h : newB M n (.map [] 0) (fun M' n' => K (.mp n) M' n') = some r) : Did w0 g M w K r (s.run P w) := by
  rw [newB_eq] at h
  obtain ⟨g1, g2⟩ := hM.alloc (w1 := w) (.map #[] 0) rfl rfl rfl rfl (x := ⟨w.heap.size, 0, 0⟩) (b := .map [] 0) rfl ⟨#[], by simp, .nil⟩
  exact ⟨_, _, _, _, _, _, h, hs, .mp (x := ⟨w.heap.size, 0, 0⟩) updG_new, g1, g2⟩
end Go.Eb

/-
The closed evaluator: interfaces, parts, capacities, texts ranged over, functions without a body.
-/
set_option linter.unusedVariables false
set_option linter.unusedSimpArgs false
namespace Go.Eb
open Go.Ev (szT byT aggO offT fszT TK kindT elemK zok LK leavesT kind_slice kind_array kind_str kind_int run_sizeOf szT_info addr_add At zok_is)
variable {A : Type} {P : Program} {w0 : World} {g : Env} {F : Fr} {M : Mm} {n m : Nat} {a : Act} {w : World} {K : V → Mm → Nat → Option A} {r : A}

theorem makeInterface_did (hM : RM w0 g M n w) {t : TypeId} {v : V} {cv : Value} (hv : Rep g v cv) (h : bb (conc P t) (K (.ifc t v) M n) = some r) : DidS w0 g M n w K r ((Instr.makeInterface t cv).run P w) := by
  replace h := bb_some h; obtain ⟨hc, h⟩ := h
  have : (Instr.makeInterface t cv).run P w = .ok (.iface t cv) w := by
    unfold conc at hc
    split at hc
    · cases hc
    · rename_i d hn hd
      unfold Instr.makeInterface
      simp only [Sem.run_bind, run_underlying hd, Result.andThen_ok]
      cases d <;> first | rfl | exact absurd rfl (hn _)
    · cases hc
  exact this ▸ did_ok hM h (.ifc hv)

theorem ifc_eq1 (d : Nat) {t : TypeId} {ms : Array (String × TypeId)} (hu : P.underlying t = some (.interface ms)) (a : TypeId) (b : Value) : (Op.equalIn (d + 1) t .nilIface (.iface a b)).run P w = .ok false w := by
  simp only [Op.equalIn, Sem.run_bind, run_underlying hu, Result.andThen_ok, Sem.run_pure]
theorem ifc_eq2 (d : Nat) {t : TypeId} {ms : Array (String × TypeId)} (hu : P.underlying t = some (.interface ms)) (a : TypeId) (b : Value) : (Op.equalIn (d + 1) t (.iface a b) .nilIface).run P w = .ok false w := by
  simp only [Op.equalIn, Sem.run_bind, run_underlying hu, Result.andThen_ok, Sem.run_pure]
theorem ifc_eq3 (d : Nat) {t : TypeId} {ms : Array (String × TypeId)} (hu : P.underlying t = some (.interface ms)) : (Op.equalIn (d + 1) t .nilIface .nilIface).run P w = .ok true w := by
  simp only [Op.equalIn, Sem.run_bind, run_underlying hu, Result.andThen_ok, Sem.run_pure]
theorem ifc_eq4 (d : Nat) {t : TypeId} {ms : Array (String × TypeId)} (hu : P.underlying t = some (.interface ms)) {a b : TypeId} (h : a ≠ b) (x y : Value) : (Op.equalIn (d + 1) t (.iface a x) (.iface b y)).run P w = .ok false w := by
  simp only [Op.equalIn, Sem.run_bind, run_underlying hu, Result.andThen_ok]
  rw [if_pos h]
  rfl
theorem ifc_eq5 (d : Nat) {t : TypeId} {ms : Array (String × TypeId)} (hu : P.underlying t = some (.interface ms)) {a : TypeId} {i : TypeInfo} (hi : P.info? a = some i) (hc : i.comparable = true) {k : IntKind} (hk : P.underlying a = some (.int k)) (x y : Int) : (Op.equalIn (d + 2) t (.iface a (.int k x)) (.iface a (.int k y))).run P w = .ok (x == y) w := by
  simp only [Op.equalIn, Sem.run_bind, run_underlying hu, Result.andThen_ok]
  rw [if_neg (by simp)]
  simp only [typeInfo, Sem.run_bind, run_program, Result.andThen_ok, hi, Sem.run_pure, hc, Bool.not_true, Bool.false_eq_true, if_false, run_underlying hk, if_true]
theorem ifcE_run {t : TypeId} {ms : Array (String × TypeId)} (hu : P.underlying t = some (.interface ms)) {ox oy : Operand} {x y : V} {cx cy : Value} {c : Bool} (hc : (isConst ox || isConst oy) = c) (hx : Rep g x cx) (hy : Rep g y cy) {b : Bool} (h : ifcE P c x y = some b) :
    (Op.equal t cx cy).run P w = .ok b w ∧ (∀ op, (eqGuard op t ox oy cx cy).run P w = .ok () w) ∧ (∀ k n, cx ≠ .int k n) ∧ (∀ s, cx ≠ .string s) ∧ (∀ k b, cx ≠ .float k b) ∧ (∀ k a b, cx ≠ .complex k a b) := by
  unfold ifcE at h
  split at h
  · cases hx; cases hy
    split at h
    · rename_i hc'
      injection h with h; subst h
      refine ⟨by rw [Op.equal, Op.maxDepth]; exact ifc_eq3 9999 hu, fun op => ?_, by simp, by simp, by simp, by simp⟩
      cases op <;> first | rfl | (cases ox <;> cases oy <;> first | rfl | (simp [isConst] at hc; done))
    · cases h
  · cases hx; cases hy
    injection h with h; subst h
    exact ⟨by rw [Op.equal, Op.maxDepth]; exact ifc_eq1 9999 hu _ _, fun op => by cases op <;> rfl, by simp, by simp, by simp, by simp⟩
  · cases hx; cases hy
    injection h with h; subst h
    exact ⟨by rw [Op.equal, Op.maxDepth]; exact ifc_eq2 9999 hu _ _, fun op => by cases op <;> rfl, by simp, by simp, by simp, by simp⟩
  · cases hx with | ifc h1 => cases hy with | ifc h2 =>
      cases h1; cases h2
      refine ⟨?_, fun op => by cases op <;> rfl, by simp, by simp, by simp, by simp⟩
      rw [Op.equal, Op.maxDepth]
      split at h
      · rename_i hne
        injection h with h; subst h
        exact ifc_eq4 9999 hu (fun e => by rw [e, Nat.beq_refl] at hne; cases hne) _ _
      · rename_i heq
        have heq := Nat.eq_of_beq_eq_true heq
        subst heq
        split at h
        · rename_i i hk
          split at h
          · rename_i hb
            injection h with h; subst h
            simp only [Bool.and_eq_true, decide_eq_true_eq] at hb
            obtain ⟨⟨rfl, rfl⟩, hcm⟩ := hb
            unfold cmpOk at hcm
            split at hcm
            · rename_i inf hi
              rw [ifc_eq5 9998 hu hi hcm (Ev.kind_int hk), eqI_eq]
              congr 1
            · cases hcm
          · cases h
        · cases h
  · cases h
theorem ifcB_did (hM : RM w0 g M n w) {op : BinOp} {t : TypeId} {ox oy : Operand} {x y : V} {cx cy : Value} (ht : isIfc P t = true) (hx : Rep g x cx) (hy : Rep g y cy) (h : ifcB P op (isConst ox || isConst oy) x y M n K = some r) :
    DidS w0 g M n w K r ((do eqGuard op t ox oy cx cy; binOp op t cx cy : Sem Value).run P w) := by
  obtain ⟨ms, hu⟩ : ∃ ms, P.underlying t = some (.interface ms) := by
    unfold isIfc at ht
    split at ht
    · rename_i ms hu; exact ⟨ms, hu⟩
    · cases ht
  unfold ifcB at h
  split at h
  · replace h := ob_some h; obtain ⟨b, hb, h⟩ := h
    rw [kB_eq] at h
    obtain ⟨k1, k2, k3, k4, k5, k6⟩ := ifcE_run (P := P) (w := w) hu rfl hx hy hb
    exact bin_val hM (k2 _) ((binOp_eql k1 k3 k4 k5 k6).1 ▸ did_ok hM h (.bool _))
  · replace h := ob_some h; obtain ⟨b, hb, h⟩ := h
    rw [kB_eq] at h
    obtain ⟨k1, k2, k3, k4, k5, k6⟩ := ifcE_run (P := P) (w := w) hu rfl hx hy hb
    exact bin_val hM (k2 _) ((binOp_eql k1 k3 k4 k5 k6).2 ▸ did_ok hM h (.bool _))
  · cases h

theorem RepL.drop : ∀ {as : List V} {vs : List Value} (k : Nat), RepL g as vs → RepL g (as.drop k) (vs.drop k)
  | _, _, 0, h => by simpa using h
  | _, _, k + 1, .nil => by simpa using RepL.nil
  | _, _, k + 1, .cons h t => by simpa using t.drop k
theorem partB_did (hM : RM w0 g M n w) {t : TypeId} {f : Nat} {x : V} {cx : Value} (hx : Rep g x cx) (h : partB P M n t f x K = some r) : DidS w0 g M n w K r ((Instr.field t cx f).run P w) := by
  unfold partB at h
  split at h
  · rename_i cs
    replace h := ob_some h; obtain ⟨⟨ft, off⟩, hf, h⟩ := h
    replace h := ob_some h; obtain ⟨ag, hag, h⟩ := h
    dsimp only at hag h
    unfold fldT at hf
    split at hf
    · rename_i fs hu
      split at hf
      · rename_i fd hfd
        injection hf with hf; injection hf with e1 e2
        subst e1 e2
        cases hx with | @agg _ vs hvs h1 =>
          have hrun : (Instr.field t (.agg vs) f).run P w = (part fd.type vs fd.offset).run P w := by
            unfold Instr.field
            simp only [Sem.run_bind, run_underlying hu, Result.andThen_ok, hfd, asAgg, Sem.run_pure]
          rw [hrun]
          unfold part
          cases ag with
          | true =>
            replace h := bb_some h; obtain ⟨hb, h⟩ := h
            rw [Bool.and_eq_true, Nat.blt_eq] at hb
            obtain ⟨hp, hl⟩ := hb
            have hl := Nat.le_of_ble_eq_true hl
            obtain ⟨i, hi⟩ := szT_info hp
            have hsz : szT P fd.type = i.size := by simp [szT, hi]
            simp only [Sem.run_bind, Ev.aggO_run hag, Result.andThen_ok, if_true, run_sizeOf hi, Sem.run_pure]
            refine did_ok hM h (.agg ?_ fun c hc => h1 c (List.mem_of_mem_drop (List.mem_of_mem_take hc)))
            have : (vs.extract fd.offset (fd.offset + i.size)).toList = (vs.toList.drop fd.offset).take i.size := by
              rw [Array.toList_extract, List.extract_eq_take_drop]
              congr 1
              omega
            rw [this, hsz]
            exact (hvs.drop _).take _
          | false =>
            replace h := ob_some h; obtain ⟨v, hv, h⟩ := h
            obtain ⟨cv, hcv, hr⟩ := hvs.get hv
            rw [Array.getElem?_toList] at hcv
            simp only [Sem.run_bind, Ev.aggO_run hag, Result.andThen_ok, Bool.false_eq_true, if_false, hcv, Sem.run_pure]
            exact did_ok hM h hr
      · cases hf
    · cases hf
  · cases h

theorem capB_did (hM : RM w0 g M n w) {t ty : TypeId} {x : V} {cx : Value} (hx : Rep g x cx) (h : capB P M n t x K = some r) : DidS w0 g M n w K r ((Builtin.cap_ #[t] ty #[cx]).run P w) := by
  unfold capB at h
  split at h
  · rename_i e hk
    cases hx
    rw [kN_eq] at h
    exact (show (Builtin.cap_ #[t] ty #[.slice none 0 0]).run P w = .ok (.int .i64 ((0 : Nat) : Int)) w by simp [Builtin.cap_, run_underlying (kind_slice hk), goInt]) ▸ did_ok hM h (.int _ _)
  · rename_i e id off z len lim hk
    cases hx with | @sl _ _ _ _ cap _ x p hg he hle hp hc =>
      have hrun : ∀ c : Nat, cap = c → (Builtin.cap_ #[t] ty #[.slice (some p) len cap]).run P w = .ok (.int .i64 (c : Int)) w := fun c e => by subst e; simp [Builtin.cap_, run_underlying (kind_slice hk), goInt]
      split at h
      · rename_i c
        rw [kN_eq] at h
        exact hrun c hc.1 ▸ did_ok hM h (.int _ _)
      · replace h := cellsAt_some h; obtain ⟨k, ex, c, hid, h⟩ := h
        replace h := bb_some h; obtain ⟨hb, h⟩ := h
        simp only [Bool.and_eq_true, Nat.blt_eq, Nat.beq_eq] at hb
        obtain ⟨⟨⟨hex, hz⟩, hok⟩, hm⟩ := hb
        have hok := Nat.le_of_ble_eq_true hok
        rw [kN_eq] at h
        obtain ⟨y, hy, cs, ty', fr, b1, b2, b3, b4, b5, b6⟩ := hM.rep id _ hid
        obtain rfl : x = y := by rw [hg] at hy; injection hy
        have hc : x.base + off + cap * z = x.size := hc
        have b5 := b5 hex
        have hcap : cap = (k - off) / z := by
          have : k - off = cap * z := by omega
          rw [this, Nat.mul_div_cancel _ hz]
        exact hrun _ hcap ▸ did_ok hM h (.int _ _)
  · cases h

/-! ### A text ranged over -/
theorem rangeB_did (hM : RM w0 g M n w) {t : TypeId} {x : V} {cx : Value} (hx : Rep g x cx) (h : rangeB P M n t x K = some r) : Did w0 g M w K r ((Instr.range t cx).run P w) := by
  unfold rangeB at h
  split at h
  · rename_i l hk
    rw [newB_eq] at h
    cases hx with | @str s _ e hs =>
      subst e
      have hrun : (Instr.range t (.string s)).run P w = .ok (.pointer (some ⟨w.heap.size, 0, none⟩)) (w.alloc (.stringIter s 0)) := by
        unfold Instr.range
        simp [Sem.run_bind, run_underlying (kind_str hk)]
      rw [hrun]
      have hx := hM.alloc (w1 := w) (.stringIter s 0) rfl rfl rfl rfl (x := ⟨w.heap.size, 0, 0⟩) (b := .siter (natsOf s) 0) rfl ⟨s, by simp, rfl, rfl⟩
      exact ⟨_, _, _, _, _, _, h, rfl, .ptr (x := ⟨w.heap.size, 0, 0⟩) updG_new, hx.1, hx.2⟩
  · cases h

theorem nextB_did (hM : RM w0 g M n w) {sb : Bool} {ty : TypeId} {x : V} {cx : Value} (hx : Rep g x cx) (h : nextB M n sb x K = some r) : Did w0 g M w K r ((Instr.next cx sb ty).run P w) := by
  unfold nextB at h
  split at h
  · rename_i id
    replace h := ob_some h; obtain ⟨b, hb, h⟩ := h
    split at h
    · rename_i l pos
      cases hx with | @ptr _ _ x hg =>
        obtain ⟨y, hy, s, h1, h2, h3⟩ := hM.rep id _ hb
        obtain rfl : x = y := by rw [hg] at hy; injection hy
        subst h2
        have hobj : (getObj x.blk).run P w = .ok (.stringIter s pos) w := by
          show Sem.run P (.getObj x.blk .pure) w = _
          simp only [Sem.run, h1]
        have hlen := natsOf_length s
        rw [h3]
        split at h
        · rename_i hd
          have hle : s.size ≤ pos := by have := List.drop_eq_nil_iff.1 hd; omega
          have hrun : (Instr.next (.pointer (some ⟨x.blk, 0 + 0, none⟩)) true ty).run P w = .ok (.tuple #[.bool false]) w := by
            unfold Instr.next
            simp only [Nat.add_zero, Sem.run_bind, hobj, Result.andThen_ok]
            rw [if_neg (by omega)]
            rfl
          rw [hrun]
          exact ⟨_, _, _, _, _, _, h, rfl, .tup (.cons (.bool _) .nil), hM, .refl g M w⟩
        · rename_i ch rest hd
          replace h := bb_some h; obtain ⟨hch, h⟩ := h
          have hch : ch < 128 := by simpa [Nat.blt_eq] using hch
          rw [T.setK_set] at h
          have hpos : pos < (natsOf s).length := by
            apply Classical.byContradiction
            intro hn
            rw [List.drop_eq_nil_iff.2 (by omega)] at hd
            cases hd
          have hpos' : pos < s.size := by omega
          have hget : (natsOf s)[pos]? = some ch := by
            have := congrArg List.head? hd
            rw [List.head?_drop] at this
            exact this
          have hbyte : (s.get! pos).toNat = ch := by
            unfold natsOf at hget
            rw [List.getElem?_map, Array.getElem?_toList] at hget
            have hps : pos < s.data.size := hpos'
            rw [Array.getElem?_eq_getElem hps] at hget
            injection hget with hget
            have : s.get! pos = s.data[pos] := by
              show s.data[pos]! = _
              exact getElem!_pos s.data pos hps
            rw [this]; exact hget
          have hdec : Utf8.decode s pos = (ch, 1) := by
            unfold Utf8.decode
            simp only [Nat.add_zero, hbyte]
            rw [if_pos hch]
          have hlt : x.blk < w.heap.size := (hM.lt id x hg).2.2
          have hset : (setObj x.blk (.stringIter s (pos + 1))).run P w = .ok () { w with heap := w.heap.setIfInBounds x.blk (.stringIter s (pos + 1)) } := by
            simp [setObj, Sem.run, h1]
          have hrun : (Instr.next (.pointer (some ⟨x.blk, 0 + 0, none⟩)) true ty).run P w = .ok (.tuple #[.bool true, .int .i64 pos, .int .i32 ch]) { w with heap := w.heap.setIfInBounds x.blk (.stringIter s (pos + 1)) } := by
            unfold Instr.next
            simp only [Nat.add_zero, Sem.run_bind, hobj, Result.andThen_ok]
            rw [if_pos hpos', hdec]
            simp only [Sem.run_bind, hset, Result.andThen_ok, Sem.run_pure, goInt]
          rw [hrun]
          have hw := hM.write (w' := { w with heap := w.heap.setIfInBounds x.blk (.stringIter s (pos + 1)) }) (b' := .siter (natsOf s) (Nat.succ pos)) hb hg (fun k hk => by
            show (w.heap.setIfInBounds x.blk _)[k]? = _
            rw [Array.getElem?_setIfInBounds, if_neg (fun e => hk e.symm)]) (by show (w.heap.setIfInBounds x.blk _).size = _; simp) ⟨s, by
            show (w.heap.setIfInBounds x.blk _)[x.blk]? = _
            rw [Array.getElem?_setIfInBounds, if_pos rfl, if_pos hlt], rfl, h3⟩ rfl rfl rfl
          exact ⟨_, _, _, _, _, _, h, rfl, .tup (.cons (.bool _) (.cons (.int _ _) (.cons (.int _ _) .nil))), hw.1, hw.2⟩
    · cases h
  · cases h

/-! ### Functions without a body -/
theorem idxL_eq (u : UInt8) : ∀ (l : List UInt8) (i : Nat), idxL u.toNat (l.map (fun x : UInt8 => x.toNat)) i = if Lib.indexByte l u = -1 then none else some (i + (Lib.indexByte l u).toNat)
  | [], i => rfl
  | b :: l, i => by
    have hge := Lib.indexByte_ge l u
    show (match Nat.beq b.toNat u.toNat with | true => some i | false => idxL u.toNat (l.map (fun x : UInt8 => x.toNat)) (Nat.succ i)) = _
    rw [Lib.indexByte]
    by_cases h : b = u
    · subst h
      simp [Nat.beq_refl]
    · have h1 : Nat.beq b.toNat u.toNat = false := by
        cases hb : Nat.beq b.toNat u.toNat with
        | false => rfl
        | true => exact absurd (UInt8.toNat_inj.1 (Nat.eq_of_beq_eq_true hb)) h
      have h2 : (b == u) = false := by simpa using h
      rw [h1, h2, idxL_eq u l (Nat.succ i)]
      simp only [Bool.false_eq_true, if_false, beq_iff_eq]
      by_cases h3 : Lib.indexByte l u = -1
      · simp [h3]
      · rw [if_neg h3, if_neg h3, if_neg (by omega)]
        congr 1
        omega
theorem cntL_eq (u : UInt8) : ∀ (l : List UInt8) (k : Nat), cntL u.toNat (l.map (fun x : UInt8 => x.toNat)) k = k + Lib.countByte l u
  | [], k => by simp [cntL, Lib.countByte]
  | b :: l, k => by
    show (match Nat.beq b.toNat u.toNat with | true => cntL u.toNat (l.map (fun x : UInt8 => x.toNat)) (Nat.succ k) | false => cntL u.toNat (l.map (fun x : UInt8 => x.toNat)) k) = _
    have hc : Lib.countByte (b :: l) u = Lib.countByte l u + if b = u then 1 else 0 := by
      unfold Lib.countByte
      rw [List.count_cons]
      simp
    rw [hc]
    by_cases h : b = u
    · subst h
      rw [Nat.beq_refl, if_pos rfl]
      show cntL b.toNat (l.map (fun x : UInt8 => x.toNat)) (Nat.succ k) = _
      rw [cntL_eq b l]
      omega
    · have h1 : Nat.beq b.toNat u.toNat = false := by
        cases hb : Nat.beq b.toNat u.toNat with
        | false => rfl
        | true => exact absurd (UInt8.toNat_inj.1 (Nat.eq_of_beq_eq_true hb)) h
      rw [h1, if_neg h]
      show cntL u.toNat (l.map (fun x : UInt8 => x.toNat)) k = _
      rw [cntL_eq u l]
      rfl
theorem find_idx {fn : Func} (h1 : fn.name = "internal/bytealg.IndexByteString") (h2 : fn.origin = "") : Extern.findNext fn = none ∧ Extern.find fn = some Extern.BytealgIndexByte.indexByte := by
  constructor
  · unfold Extern.findNext
    rw [h1, h2]
    dsimp only
    rw [show Extern.allNextRows.lookup "internal/bytealg.IndexByteString" = none from by kernel_rfl, show Extern.allNextRows.lookup "" = none from by kernel_rfl]
    rfl
  · unfold Extern.find
    rw [h1]
    dsimp only
    rw [show Extern.allGenericRows.lookup "internal/bytealg.IndexByteString" = none from by kernel_rfl, show Extern.allTypedRows.lookup "internal/bytealg.IndexByteString" = none from by kernel_rfl, show Extern.allRows.lookup "internal/bytealg.IndexByteString" = some Extern.BytealgIndexByte.indexByte from by kernel_rfl]
    rfl
theorem find_cnt {fn : Func} (h1 : fn.name = "internal/bytealg.CountString") (h2 : fn.origin = "") : Extern.findNext fn = none ∧ Extern.find fn = some Extern.BytealgCount.count := by
  constructor
  · unfold Extern.findNext
    rw [h1, h2]
    dsimp only
    rw [show Extern.allNextRows.lookup "internal/bytealg.CountString" = none from by kernel_rfl, show Extern.allNextRows.lookup "" = none from by kernel_rfl]
    rfl
  · unfold Extern.find
    rw [h1]
    dsimp only
    rw [show Extern.allGenericRows.lookup "internal/bytealg.CountString" = none from by kernel_rfl, show Extern.allTypedRows.lookup "internal/bytealg.CountString" = none from by kernel_rfl, show Extern.allRows.lookup "internal/bytealg.CountString" = some Extern.BytealgCount.count from by kernel_rfl]
    rfl
theorem ext_res (hM : RM w0 g M n w) {f : FuncId} {e : Ext} {xs : List V} {cargs : Array Value} (he : extP P f = some e) (hx : RepL g xs cargs.toList) (h : extB e xs M n K = some r) : ∃ v cv, K v M n = some r ∧ (callFunc f cargs).run P w = .ok (.value cv) w ∧ Rep g v cv := by
  unfold extP at he
  split at he
  · rename_i fn hf
    split at he
    · cases he
    · rename_i hb
      unfold extOf at he
      split at he
      · rename_i ho
        have ho : fn.origin = "" := by simpa using ho
        unfold extB at h
        split at h
        · rename_i l c
          obtain ⟨cs, cc, hc, h1, h2⟩ := hx.inv2
          obtain rfl : cargs = #[cs, cc] := by cases cargs; simp_all
          cases h2
          cases h1 with | @str s _ e1 hs =>
            subst e1
            have hcu : Nat.mod c 256 = ((Int.ofNat c).toNat.toUInt8).toNat := by
              show c % 256 = (c.toUInt8).toNat
              simp [Nat.toUInt8, UInt8.toNat_ofNat]
            split at he
            · rename_i hn
              have hn : fn.name = "internal/bytealg.IndexByteString" := by simpa using hn
              injection he with he; subst he
              obtain ⟨k1, k2⟩ := find_idx hn ho
              have hrun : (callFunc f #[.string s, .int .u8 (Int.ofNat c)]).run P w = .ok (.value (.int .i64 (Lib.indexByte s.data.toList (Int.ofNat c).toNat.toUInt8))) w := by
                rw [run_callFunc_extern hf (by rw [hn]; decide) (by rw [hb]; rfl) k1 k2, Lib.run_indexByteString]
                rfl
              dsimp only at h
              rw [hcu] at h
              unfold natsOf at h
              rw [idxL_eq] at h
              have hge := Lib.indexByte_ge s.data.toList (Int.ofNat c).toNat.toUInt8
              split at h
              · rename_i i hi
                split at hi
                · cases hi
                · rename_i hne
                  injection hi with hi
                  rw [kN_eq] at h
                  refine ⟨_, _, h, hrun, ?_⟩
                  have : (i : Int) = Lib.indexByte s.data.toList (Int.ofNat c).toNat.toUInt8 := by omega
                  rw [← this]; exact .int _ _
              · rename_i hi
                split at hi
                · rename_i heq
                  refine ⟨_, _, h, hrun, ?_⟩
                  rw [heq]; exact .int _ _
                · cases hi
            · split at he
              · rename_i hn
                have hn : fn.name = "internal/bytealg.CountString" := by simpa using hn
                injection he with he; subst he
                obtain ⟨k1, k2⟩ := find_cnt hn ho
                have hrun : (callFunc f #[.string s, .int .u8 (Int.ofNat c)]).run P w = .ok (.value (.int .i64 (Lib.countByte s.data.toList (Int.ofNat c).toNat.toUInt8))) w := by
                  rw [run_callFunc_extern hf (by rw [hn]; decide) (by rw [hb]; rfl) k1 k2, Lib.run_countString]
                  rfl
                dsimp only at h
                rw [hcu] at h
                unfold natsOf at h
                rw [cntL_eq, kN_eq, Nat.zero_add] at h
                exact ⟨_, _, h, hrun, .int _ _⟩
              · cases he
        · cases h
      · cases he
  · cases he
end Go.Eb

/-
The closed evaluator: every operation.
-/
set_option linter.unusedVariables false
set_option linter.unusedSimpArgs false
namespace Go.Eb
open Go.Ev (szT byT aggO offT fszT TK kindT elemK zok LK leavesT lift_v map_toArray parts_toArray array_of_toList)
variable {A : Type} {P : Program} {w0 : World} {g : Env} {F : Fr} {M : Mm} {n m : Nat} {a : Act} {w : World} {K : V → Mm → Nat → Option A} {r : A}

/-- What is behind a call. -/
def CallPost (w0 : World) (g : Env) (M : Mm) (w : World) (K : V → Mm → Nat → Option A) (r : A) : Ending → World → Prop := fun e w' =>
  ∃ v cv M' n' g', e = .returned cv ∧ K v M' n' = some r ∧ Rep g' v cv ∧ RM w0 g' M' n' w' ∧ Mv g M w g' M' w'
def CallGood (P : Program) (w0 : World) (call : CallT A) : Prop := GlobOk P w0 ∧ ∀ (f : FuncId) (xs : List V) (M : Mm) (n : Nat) (K : V → Mm → Nat → Option A) (r : A) (g : Env) (w : World) (cargs : Array Value),
  call f xs M n K = some r → RM w0 g M n w → RepL g xs cargs.toList → (callFunc f cargs).run P w = .ok (.enter f cargs) w ∧ Calls P f cargs w (CallPost w0 g M w K r)

inductive OpRes (P : Program) (w0 : World) (g : Env) (M : Mm) (n : Nat) (w : World) (K : V → Mm → Nat → Option A) (r : A) (st : Bool) (res : Result Next) : Prop where
  | still {v : V} {cv : Value} (hK : K v M n = some r) (hr : res = .ok (.value cv) w) (hv : Rep g v cv)
  | value {v : V} {M' : Mm} {n' : Nat} {g' : Env} {w' : World} {cv : Value} (hs : st = false) (hK : K v M' n' = some r) (hr : res = .ok (.value cv) w') (hv : Rep g' v cv) (hM : RM w0 g' M' n' w') (hm : Mv g M w g' M' w')
  | skip {M' : Mm} {n' : Nat} {w' : World} (hs : st = false) (hK : K (.tup []) M' n' = some r) (hr : res = .ok .skip w') (hM : RM w0 g M' n' w') (hm : Mv g M w g M' w')
  | call {f : FuncId} {cargs : Array Value} (hs : st = false) (hr : res = .ok (.enter f cargs) w) (hc : Calls P f cargs w (CallPost w0 g M w K r))

theorem Did.res {s : Sem Value} {q : Sem Next} {st : Bool} (h : Did w0 g M w K r (s.run P w)) (hst : st = false) (hq : ∀ cv w', s.run P w = .ok cv w' → q.run P w = .ok (.value cv) w') : OpRes P w0 g M n w K r st (q.run P w) := by
  obtain ⟨v, M', n', g', w', cv, h1, h2, h3, h4, h5⟩ := h
  exact .value hst h1 (hq _ _ h2) h3 h4 h5
theorem DidS.res {s : Sem Value} {q : Sem Next} {st : Bool} (h : DidS w0 g M n w K r (s.run P w)) (hq : ∀ cv w', s.run P w = .ok cv w' → q.run P w = .ok (.value cv) w') : OpRes P w0 g M n w K r st (q.run P w) := by
  obtain ⟨v, cv, h1, h2, h3, h4⟩ := h
  exact .still h1 (hq _ _ h2) h3

theorem callB_res {call : CallT A} (hcall : CallGood P w0 call) (hM : RM w0 g M n w) {f : V} {xs : List V} {cf : Value} {cvs : Array Value} (hf : Rep g f cf) (hxs : RepL g xs cvs.toList) (h : callB P call M n f xs K = some r) :
    OpRes P w0 g M n w K r false ((do let d ← Deferred.ofValue cf cvs; invoke d.target d.args : Sem Next).run P w) := by
  unfold callB at h
  split at h
  · rename_i k caps
    cases hf with | @clo _ _ ccaps hcaps =>
      have hall : RepL g (xs ++ caps) (cvs ++ ccaps).toList := by
        have := hxs.append hcaps
        simpa using this
      have hgo : (do let d ← Deferred.ofValue (.func (.func k) #[] ccaps) cvs; invoke d.target d.args : Sem Next).run P w = (callFunc k (cvs ++ ccaps)).run P w := by
        simp only [Deferred.ofValue, Sem.run_bind, Sem.run_pure, Result.andThen_ok, invoke, Array.empty_append]
      rw [hgo]
      split at h
      · rename_i e he
        obtain ⟨v, cv, h1, h2, h3⟩ := ext_res hM he hall h
        exact .still h1 h2 h3
      · obtain ⟨h1, h2⟩ := hcall.2 _ _ _ _ _ _ _ _ _ h hM hall
        exact .call rfl h1 h2
  · cases h

theorem builtinB_did (hM : RM w0 g M n w) {b : Builtin} {ts : Array TypeId} {ty : TypeId} {xs : List V} {cxs : Array Value} (hx : RepL g xs cxs.toList) (h : builtinB P M n b ts.toList xs K = some r) :
    ∃ s : Sem Value, (∀ cs, builtin b ts ty cs cxs = (do pure (.value (← s)))) ∧ (DidS w0 g M n w K r (s.run P w) ∨ (b ≠ .len ∧ b ≠ .min ∧ b ≠ .max ∧ Did w0 g M w K r (s.run P w))) := by
  have two : ∀ {x y : V}, xs = [x, y] → ∃ cx cy, cxs = #[cx, cy] ∧ Rep g x cx ∧ Rep g y cy := by
    rintro x y rfl
    obtain ⟨cx, cy, e, h1, h2⟩ := hx.inv2
    exact ⟨cx, cy, array_of_toList e, h1, h2⟩
  have one : ∀ {x : V}, xs = [x] → ∃ cx, cxs = #[cx] ∧ Rep g x cx := by
    rintro x rfl
    obtain ⟨cx, e, h1⟩ := hx.inv1
    exact ⟨cx, array_of_toList e, h1⟩
  unfold builtinB at h
  split at h
  · rename_i t x hts
    obtain ⟨cx, rfl, hx1⟩ := one rfl
    obtain rfl := array_of_toList hts
    exact ⟨_, fun _ => rfl, .inl (lenB_did hM hx1 h)⟩
  · rename_i t u x y hts
    obtain ⟨cx, cy, rfl, hx1, hy⟩ := two rfl
    obtain rfl := array_of_toList hts
    replace h := bb_some h; obtain ⟨hb, h⟩ := h
    replace h := ob_some h; obtain ⟨e, he, h⟩ := h
    exact ⟨_, fun _ => rfl, .inr ⟨by simp, by simp, by simp, appendB_did hM he hb hx1 hy h⟩⟩
  · rename_i t u x y hts
    obtain ⟨cx, cy, rfl, hx1, hy⟩ := two rfl
    obtain rfl := array_of_toList hts
    replace h := ob_some h; obtain ⟨e, he, h⟩ := h
    exact ⟨_, fun _ => rfl, .inr ⟨by simp, by simp, by simp, copyB_did hM he hx1 hy h⟩⟩
  · rename_i t x hts
    obtain ⟨cx, rfl, hx1⟩ := one rfl
    obtain rfl := array_of_toList hts
    exact ⟨_, fun _ => rfl, .inr ⟨by simp, by simp, by simp, clearB_did hM hx1 h⟩⟩
  · rename_i t u x y hts
    obtain ⟨cx, cy, rfl, hx1, hy⟩ := two rfl
    obtain rfl := array_of_toList hts
    exact ⟨_, fun _ => rfl, .inr ⟨by simp, by simp, by simp, deleteB_did hM hx1 hy h⟩⟩
  · rename_i x y
    obtain ⟨cx, cy, rfl, hx1, hy⟩ := two rfl
    have := minmaxB_did (P := P) (mx := false) (ts := ts) (ty := ty) hM hx1 hy h
    exact ⟨_, fun _ => rfl, .inl (by simpa using this)⟩
  · rename_i x y
    obtain ⟨cx, cy, rfl, hx1, hy⟩ := two rfl
    have := minmaxB_did (P := P) (mx := true) (ts := ts) (ty := ty) hM hx1 hy h
    exact ⟨_, fun _ => rfl, .inl (by simpa using this)⟩
  · rename_i t x hts
    obtain ⟨cx, rfl, hx1⟩ := one rfl
    obtain rfl := array_of_toList hts
    exact ⟨_, fun _ => rfl, .inl (capB_did hM hx1 h)⟩
  · cases h

theorem nilCheck_shape {x : V} {cx : Value} (hx : Rep g x cx) (h : nilCheckB M n x K = some r) : (∃ p, cx = .pointer (some p)) ∨ ∃ f b c, cx = .func (.func f) b c := by
  unfold nilCheckB at h
  split at h
  · cases hx; exact .inl ⟨_, rfl⟩
  · cases hx; exact .inr ⟨_, _, _, rfl⟩
  · cases h

theorem op_res {call : CallT A} (hcall : CallGood P w0 call) (hM : RM w0 g M n w) {o : Oper} (hF : EvR g F a o.op.operands.toList) (h : opB P call F M n o.op K = some r) : OpRes P w0 g M n w K r (isStill P o.op) ((execOp a.eval o).run P w) := by
  unfold opB at h
  split at h
  · rename_i x ho
    replace h := ob_some h; obtain ⟨v, hv, h⟩ := h
    exact .still h (by simp only [execOp, ho, Sem.run_pure]) (hF x (by rw [ho]; simp [Op.operands]) _ hv)
  · rename_i x ho
    replace h := ob_some h; obtain ⟨v, hv, h⟩ := h
    exact .still h (by simp only [execOp, ho, Sem.run_pure]) (hF x (by rw [ho]; simp [Op.operands]) _ hv)
  · rename_i c x y ho
    refine (pick_did (P := P) hM (hF.sub (by rw [ho]; simp [Op.operands])) h).res fun cv w' hr => ?_
    simp only [execOp, ho]
    have := lift_v hr
    simpa [Sem.run_bind] using this
  · rename_i e ho
    exact (allocB_did hM h).res (by rw [ho]; rfl) fun cv w' hr => by simp only [execOp, ho]; exact lift_v hr
  · rename_i t x ho
    replace h := ob_some h; obtain ⟨v, hv, h⟩ := h
    exact (boxB_did hM (hF x (by rw [ho]; simp [Op.operands]) _ hv) h).res (by rw [ho]; rfl) fun cv w' hr => by simp only [execOp, ho]; exact lift_v hr
  · rename_i t ps ho
    have := buildB_did (a := a) hM (hF.sub (by rw [ho]; simp [Op.operands])) h
    rw [parts_toArray] at this
    exact this.res fun cv w' hr => by simp only [execOp, ho]; exact lift_v hr
  · rename_i t l ps ho
    have := buildSliceB_did (a := a) hM (hF.sub (by rw [ho]; simp [Op.operands])) h
    rw [parts_toArray] at this
    exact this.res (by rw [ho]; rfl) fun cv w' hr => by simp only [execOp, ho]; exact lift_v hr
  · rename_i t p ho
    replace h := ob_some h; obtain ⟨v, hv, h⟩ := h
    exact (loadB_did hcall.1 hM (hF p (by rw [ho]; simp [Op.operands]) _ hv) h).res fun cv w' hr => by simp only [execOp, ho]; exact lift_v hr
  · rename_i t p x ho
    replace h := ob_some h; obtain ⟨vp, hp, h⟩ := h
    replace h := ob_some h; obtain ⟨v, hv, h⟩ := h
    obtain ⟨M', n', w', hK, hr, hM', hm⟩ := storeB_did (P := P) hM (hF p (by rw [ho]; simp [Op.operands]) _ hp) (hF x (by rw [ho]; simp [Op.operands]) _ hv) h
    exact .skip (by rw [ho]; rfl) hK (by simp only [execOp, ho]; rw [Sem.run_bind, hr]; rfl) hM' hm
  · rename_i x ho
    replace h := ob_some h; obtain ⟨v, hv, h⟩ := h
    have hshape := nilCheck_shape (hF x (by rw [ho]; simp [Op.operands]) _ hv) h
    refine (DidS.res (s := pure (a.eval x)) (by simpa using (nilCheckB_did (P := P) hM (hF x (by rw [ho]; simp [Op.operands]) _ hv) h).1) fun cv w' hr => ?_)
    simp only [Sem.run_pure, Result.ok.injEq] at hr
    obtain ⟨rfl, rfl⟩ := hr
    simp only [execOp, ho]
    rcases hshape with ⟨p, hp⟩ | ⟨f, b1, b2, hp⟩ <;> rw [hp] <;> rfl
  · rename_i op t x y pos ho
    replace h := ob_some h; obtain ⟨vx, hx, h⟩ := h
    replace h := ob_some h; obtain ⟨vy, hy, h⟩ := h
    split at h
    · rename_i hi
      exact (ifcB_did (ox := x) (oy := y) hM hi (hF x (by rw [ho]; simp [Op.operands]) _ hx) (hF y (by rw [ho]; simp [Op.operands]) _ hy) h).res fun cv w' hr => by simp only [execOp, ho]; exact lift_v hr
    · exact (binB_did (ox := x) (oy := y) hM (hF x (by rw [ho]; simp [Op.operands]) _ hx) (hF y (by rw [ho]; simp [Op.operands]) _ hy) h).res fun cv w' hr => by simp only [execOp, ho]; exact lift_v hr
  · rename_i op t x ho
    replace h := ob_some h; obtain ⟨v, hv, h⟩ := h
    exact (unB_did hM (hF x (by rw [ho]; simp [Op.operands]) _ hv) h).res fun cv w' hr => by simp only [execOp, ho]; exact lift_v hr
  · rename_i s d x ho
    replace h := ob_some h; obtain ⟨v, hv, h⟩ := h
    rcases convB_did hM (hF x (by rw [ho]; simp [Op.operands]) _ hv) h with hd | ⟨⟨e, he⟩, hd⟩
    · exact hd.res fun cv w' hr => by simp only [execOp, ho]; exact lift_v hr
    · exact hd.res (by rw [ho]; simp [isStill, he]) fun cv w' hr => by simp only [execOp, ho]; exact lift_v hr
  · rename_i f first caps ho
    replace h := bb_some h; obtain ⟨hb, h⟩ := h
    replace h := opndsK_some h; obtain ⟨vs, hvs, h⟩ := h
    have hfe : first = #[] := by simpa using hb
    subst hfe
    have hrep : Rep g (.clo f vs) (.func (.func f) #[] (caps.map a.eval)) := .clo (by rw [map_toArray]; exact (hF.sub (by rw [ho]; simp [Op.operands])).evals hvs)
    exact .still h (by simp only [execOp, ho]; exact lift_v (by simp [Instr.makeFunc])) hrep
  · rename_i t ho
    exact (makeMap_did (s := Instr.makeMap t none) hM rfl h).res (by rw [ho]; rfl) fun cv w' hr => by simp only [execOp, ho]; exact lift_v hr
  · rename_i t x ho
    replace h := ob_some h; obtain ⟨q, hq, h⟩ := h
    replace h := ob_some h; obtain ⟨v, hv, h⟩ := h
    obtain ⟨kt, hu, hku⟩ := mapT_some hq
    split at h
    · rename_i k z
      have hrv := hF x (by rw [ho]; simp [Op.operands]) _ hv
      refine (makeMap_did (P := P) (s := Instr.makeMap t (some (a.eval x))) hM ?_ h).res (by rw [ho]; rfl) fun cv w' hr => by simp only [execOp, ho]; exact lift_v hr
      generalize a.eval x = cx at hrv
      cases hrv
      unfold Instr.makeMap
      simp only [Sem.run_bind, run_underlying hu, Result.andThen_ok, asInt, Sem.run_pure]
      rfl
    · cases h
  · rename_i t l c ho
    replace h := ob_some h; obtain ⟨e, he, h⟩ := h
    replace h := ob_some h; obtain ⟨vl, hl, h⟩ := h
    replace h := ob_some h; obtain ⟨vc, hc, h⟩ := h
    exact (makeSliceB_did hM he (hF l (by rw [ho]; simp [Op.operands]) _ hl) (hF c (by rw [ho]; simp [Op.operands]) _ hc) h).res (by rw [ho]; rfl) fun cv w' hr => by simp only [execOp, ho]; exact lift_v hr
  · rename_i t x lo hi mx ho
    replace h := ob_some h; obtain ⟨v, hv, h⟩ := h
    exact (sliceB_did hM (hF.sub (by rw [ho]; simp [Op.operands]; intro y hy; simp [hy])) (hF x (by rw [ho]; simp [Op.operands]) _ hv) h).res fun cv w' hr => by simp only [execOp, ho]; exact lift_v hr
  · rename_i t x f ho
    replace h := ob_some h; obtain ⟨v, hv, h⟩ := h
    exact (fieldB_did hM (hF x (by rw [ho]; simp [Op.operands]) _ hv) h).res fun cv w' hr => by simp only [execOp, ho]; exact lift_v hr
  · rename_i t x i ho
    replace h := ob_some h; obtain ⟨v, hv, h⟩ := h
    replace h := ob_some h; obtain ⟨vi, hi, h⟩ := h
    exact (indexAddrB_did hM (hF x (by rw [ho]; simp [Op.operands]) _ hv) (hF i (by rw [ho]; simp [Op.operands]) _ hi) h).res fun cv w' hr => by simp only [execOp, ho]; exact lift_v hr
  · rename_i t x i ho
    replace h := ob_some h; obtain ⟨v, hv, h⟩ := h
    replace h := ob_some h; obtain ⟨vi, hi, h⟩ := h
    exact (indexB_did hM (hF x (by rw [ho]; simp [Op.operands]) _ hv) (hF i (by rw [ho]; simp [Op.operands]) _ hi) h).res fun cv w' hr => by simp only [execOp, ho]; exact lift_v hr
  · rename_i t x i ok ho
    replace h := ob_some h; obtain ⟨v, hv, h⟩ := h
    replace h := ob_some h; obtain ⟨vi, hi, h⟩ := h
    exact (lookupB_did hM (hF x (by rw [ho]; simp [Op.operands]) _ hv) (hF i (by rw [ho]; simp [Op.operands]) _ hi) h).res fun cv w' hr => by simp only [execOp, ho]; exact lift_v hr
  · rename_i t mo k x ho
    replace h := ob_some h; obtain ⟨vm, hm, h⟩ := h
    replace h := ob_some h; obtain ⟨vk, hk, h⟩ := h
    replace h := ob_some h; obtain ⟨v, hv, h⟩ := h
    obtain ⟨M', n', w', hK, hr, hM', hm'⟩ := mapUpdateB_did (P := P) hM (hF mo (by rw [ho]; simp [Op.operands]) _ hm) (hF k (by rw [ho]; simp [Op.operands]) _ hk) (hF x (by rw [ho]; simp [Op.operands]) _ hv) h
    exact .skip (by rw [ho]; rfl) hK (by simp only [execOp, ho]; rw [Sem.run_bind, hr]; rfl) hM' hm'
  · rename_i x i ho
    replace h := ob_some h; obtain ⟨v, hv, h⟩ := h
    exact (extractB_did hM (hF x (by rw [ho]; simp [Op.operands]) _ hv) h).res fun cv w' hr => by simp only [execOp, ho]; exact lift_v hr
  · rename_i f args ts ho
    replace h := ob_some h; obtain ⟨v, hv, h⟩ := h
    replace h := opndsK_some h; obtain ⟨vs, hvs, h⟩ := h
    have := callB_res (cvs := args.map a.eval) hcall hM (hF f (by rw [ho]; simp [Op.operands, Call.operands]) _ hv) (by rw [map_toArray]; exact (hF.sub (by rw [ho]; simp [Op.operands, Call.operands]; intro y hy; exact .inr hy)).evals hvs) h
    have e : isStill P o.op = false := by rw [ho]; rfl
    rw [e]
    simp only [execOp, ho, resolve]
    exact this
  · rename_i b args ts ho
    replace h := opndsK_some h; obtain ⟨vs, hvs, h⟩ := h
    obtain ⟨s, hs, hd⟩ := builtinB_did (P := P) (ts := ts) (ty := o.type) (cxs := args.map a.eval) hM (by rw [map_toArray]; exact (hF.sub (by rw [ho]; simp [Op.operands, Call.operands])).evals hvs) h
    have hrun : ∀ cv w', s.run P w = .ok cv w' → (execOp a.eval o).run P w = .ok (.value cv) w' := fun cv w' hr => by
      simp only [execOp, ho, resolve, Sem.run_bind, Sem.run_pure, Result.andThen_ok, invoke, hs, hr]
    rcases hd with hd | ⟨h1, h2, h3, hd⟩
    · exact hd.res hrun
    · exact hd.res (by rw [ho]; cases b <;> first | rfl | exact absurd rfl h1 | exact absurd rfl h2 | exact absurd rfl h3) hrun
  · rename_i t x ho
    replace h := ob_some h; obtain ⟨v, hv, h⟩ := h
    exact (makeInterface_did hM (hF x (by rw [ho]; simp [Op.operands]) _ hv) h).res fun cv w' hr => by simp only [execOp, ho]; exact lift_v hr
  · rename_i t x f ho
    replace h := ob_some h; obtain ⟨v, hv, h⟩ := h
    exact (partB_did hM (hF x (by rw [ho]; simp [Op.operands]) _ hv) h).res fun cv w' hr => by simp only [execOp, ho]; exact lift_v hr
  · rename_i t x ho
    replace h := ob_some h; obtain ⟨v, hv, h⟩ := h
    exact (rangeB_did hM (hF x (by rw [ho]; simp [Op.operands]) _ hv) h).res (by rw [ho]; rfl) fun cv w' hr => by simp only [execOp, ho]; exact lift_v hr
  · rename_i x sb ho
    replace h := ob_some h; obtain ⟨v, hv, h⟩ := h
    exact (nextB_did (ty := o.type) hM (hF x (by rw [ho]; simp [Op.operands]) _ hv) h).res (by rw [ho]; rfl) fun cv w' hr => by simp only [execOp, ho]; exact lift_v hr
  · cases h
end Go.Eb

/-
The closed evaluator: regions in their own order.
-/
set_option linter.unusedVariables false
set_option linter.unusedSimpArgs false
namespace Go.Eb
variable {A : Type} {P : Program} {w0 : World} {g : Env} {F : Fr} {M : Mm} {n m : Nat} {a : Act} {w : World} {r : A}

/-- Slots of a list stand for what is in the frame. -/
def SlotR (g : Env) (F : Fr) (a : Act) (ts : List Nat) : Prop := ∀ t ∈ ts, ∀ v, F.get t = some v → Rep g v (a.tmps.getD t undef)
theorem SlotR.ev {xs : List Operand} {ts : List Nat} (h : SlotR g F a ts) (hs : ∀ t, Operand.tmp t ∈ xs → t ∈ ts) : EvR g F a xs := fun x hx v hv => by
  cases x with
  | tmp t => exact h t (hs t hx) v hv
  | func f => simp only [opnd, Option.some.injEq] at hv; subst hv; exact .clo .nil
  | global k => simp only [opnd, Option.some.injEq] at hv; subst hv; exact .glob k
  | const c => exact ofV_rep hv
theorem tmps_mem {all : List Oper} {o : Oper} {t : Nat} (h : Operand.tmp t ∈ o.op.operands.toList) : t ∈ tmpsOf all o := by
  unfold tmpsOf
  exact List.mem_append_left _ (List.mem_filterMap.2 ⟨_, h, rfl⟩)

theorem guardB_run {ops : Array Oper} {o : Oper} {b : Bool} (hs : SlotR g F a (tmpsOf ops.toList o)) (h : guardB ops.toList F o.guard = some b) : Region.wanted o (yielded ops a.tmps) = b := by
  unfold guardB at h
  unfold Region.wanted
  split at h
  · rename_i hg; rw [hg]; injection h
  · rename_i gd hg
    rw [hg]
    obtain ⟨j, want⟩ := gd
    replace h := ob_some h; obtain ⟨d, hd, h⟩ := h
    replace h := ob_some h; obtain ⟨v, hv, h⟩ := h
    have hd' : (ops[j]?).bind (·.dst) = some d := by unfold dstAt at hd; rwa [Array.getElem?_toList] at hd
    have hrep := hs d (by unfold tmpsOf guardSlot; rw [hg]; exact List.mem_append_right _ (by simp [hd])) v hv
    have hy : yielded ops a.tmps j = match a.tmps[d]? with | some (.bool b) => some b | _ => none := by unfold yielded; rw [hd']; rfl
    show (yielded ops a.tmps j == some want) = b
    rw [hy]
    rw [Array.getD_eq_getD_getElem?] at hrep
    unfold guardIs at h
    split at h
    · rename_i c
      injection h with h
      cases hx : a.tmps[d]? with
      | none => rw [hx] at hrep; cases hrep
      | some x => rw [hx] at hrep; cases hrep; subst h; cases c <;> cases want <;> rfl
    · injection h with h
      subst h
      cases hx : a.tmps[d]? with
      | none => simp
      | some x => rw [hx] at hrep; cases hrep; simp
    · cases h

/-- One operation. -/
theorem oper_wp {call : CallT A} (hcall : CallGood P w0 call) {ops : Array Oper} {o : Oper} {K : V → Mm → Nat → Option A} {next : Act → World → Prop} {Q : Exit → Act → World → Prop}
    (hM : RM w0 g M n w) (hs : SlotR g F a (tmpsOf ops.toList o)) (h : operB P call ops.toList o F M n K = some r)
    (hn : ∀ v M' n' g' w' cv, K v M' n' = some r → Rep g' v cv → RM w0 g' M' n' w' → Mv g M w g' M' w' → (isStill P o.op = true → w' = w ∧ M' = M ∧ n' = n ∧ g' = g) → next (a.put o.dst cv) w') :
    if Region.wanted o (yielded ops a.tmps) then o.wp P a w next Q ∨ (o.asks P a w ∧ LetsOut Q) else next (a.put o.dst undef) w := by
  unfold operB at h
  replace h := ob_some h; obtain ⟨b, hb, h⟩ := h
  rw [guardB_run hs hb]
  cases b with
  | false => exact hn _ _ _ _ _ _ h (.tup .nil) hM (.refl g M w) fun _ => ⟨rfl, rfl, rfl, rfl⟩
  | true =>
    refine .inl ?_
    unfold Oper.wp
    cases op_res hcall hM (hs.ev fun t ht => tmps_mem ht) h with
    | still hK hr hv => rw [hr]; exact hn _ _ _ _ _ _ hK hv hM (.refl g M w) fun _ => ⟨rfl, rfl, rfl, rfl⟩
    | value hst hK hr hv hM' hm => rw [hr]; exact hn _ _ _ _ _ _ hK hv hM' hm fun e => by rw [hst] at e; cases e
    | skip hst hK hr hM' hm => rw [hr]; exact hn _ _ _ _ _ _ hK (.tup .nil) hM' hm fun e => by rw [hst] at e; cases e
    | call hst hr hc =>
      rw [hr, Oper.upon_enter]
      refine Calls.mono hc fun e w' he => ?_
      obtain ⟨v, cv, M', n', g', rfl, hK, hv, hM', hm⟩ := he
      exact hn _ _ _ _ _ _ hK hv hM' hm fun e => by rw [hst] at e; cases e

theorem RF.slots (h : RF g F m a) (ts : List Nat) : SlotR g F a ts := fun t _ v hv => h.tmp t v hv
theorem RF.putO (h : RF g F m a) {d : Option Tmp} {v : V} {cv : Value} {K : Fr → Option A} (hv : Rep g v cv) (hp : putK m F d v K = some r) : ∃ F', K F' = some r ∧ RF g F' m (a.put d cv) := by
  unfold putK at hp
  split at hp
  · rename_i d
    replace hp := bb_some hp; obtain ⟨hb, hp⟩ := hp
    rw [T.setK_set] at hp
    exact ⟨_, hp, h.put (Nat.le_of_ble_eq_true hb) hv⟩
  · exact ⟨F, hp, h⟩

/-- Operations one behind another. -/
theorem opsB_wp {call : CallT A} (hcall : CallGood P w0 call) {ops : Array Oper} {K : Fr → Mm → Nat → Option A} {Q : Exit → Act → World → Prop} : ∀ {suf pre : List Oper} {F : Fr} {M : Mm} {n : Nat} {g : Env} {a : Act} {w : World}, ops.toList = pre ++ suf →
    opsB P call m ops.toList suf F M n K = some r → RM w0 g M n w → RF g F m a →
    (∀ F' M' n' g' a' w', K F' M' n' = some r → RF g' F' m a' → RM w0 g' M' n' w' → Mv g M w g' M' w' → Q .normal a' w') →
    wpOps P ops Q (List.range' pre.length suf.length) a w
  | [], pre, F, M, n, g, a, w, _, h, hM, hF, hQ => hQ _ _ _ _ _ _ h hF hM (.refl g M w)
  | o :: suf, pre, F, M, n, g, a, w, he, h, hM, hF, hQ => by
    have ho : ops[pre.length]? = some o := by rw [← Array.getElem?_toList, he]; simp
    have h : operB P call ops.toList o F M n (fun v M n => putK m F o.dst v fun F => opsB P call m ops.toList suf F M n K) = some r := h
    rw [List.length_cons, List.range'_succ]
    unfold wpOps
    rw [ho]
    refine oper_wp hcall hM (hF.slots _) h fun v M' n' g' w' cv hK hv hM' hm _ => ?_
    obtain ⟨F', hK, hF'⟩ := (hF.mono hm.ext).putO hv hK
    have := opsB_wp (pre := pre ++ [o]) (ops := ops) (Q := Q) (a := a.put o.dst cv) (w := w') hcall (by simp [he]) hK hM' hF' fun F2 M2 n2 g2 a2 w2 h1 h2 h3 h4 => hQ F2 M2 n2 g2 a2 w2 h1 h2 h3 (hm.trans h4)
    simpa using this
/-- A region that does not draw. -/
theorem region_wp {call : CallT A} (hcall : CallGood P w0 call) {id : Nat} {ops : Array Oper} {K : Fr → Mm → Nat → Option A} {Q : Exit → Act → World → Prop} (h : opsB P call m ops.toList ops.toList F M n K = some r) (hM : RM w0 g M n w) (hF : RF g F m a)
    (hQ : ∀ F' M' n' g' a' w', K F' M' n' = some r → RF g' F' m a' → RM w0 g' M' n' w' → Mv g M w g' M' w' → Q .normal a' w') : (Code.region id ops false).wp P Q a w := by
  refine wp_region ?_
  have := opsB_wp (pre := []) hcall rfl h hM hF hQ
  simpa [List.range_eq_range'] using this
end Go.Eb

/-
The closed evaluator: what is known of the plan of a region.
-/
set_option linter.unusedVariables false
set_option linter.unusedSimpArgs false
namespace Go.Eb
variable {A : Type} {P : Program}

theorem forceN_eq {α : Type} (n : Nat) (K : Nat → α) : forceN n K = K n := by cases n <;> rfl
theorem tb_eq (m i : Nat) : tb m i = m.testBit i := by
  unfold tb Nat.testBit
  rw [Bool.eq_iff_iff]
  simp only [bne_iff_ne, ne_eq, Nat.beq_eq]
  have h : Nat.land (Nat.shiftRight m i) 1 = 1 &&& m >>> i := Nat.and_comm _ _
  rw [h, Nat.one_and_eq_mod_two]
  omega
theorem bt_bit (m i j : Nat) : tb (bt m i) j = (tb m j || decide (i = j)) := by
  rw [tb_eq, tb_eq]
  show (m ||| 1 <<< i).testBit j = _
  rw [Nat.testBit_or, Nat.one_shiftLeft, Nat.testBit_two_pow]
theorem lor_bit (a b j : Nat) : tb (Nat.lor a b) j = (tb a j || tb b j) := by
  rw [tb_eq, tb_eq, tb_eq]
  show (a ||| b).testBit j = _
  rw [Nat.testBit_or]
theorem sub_bit {a b : Nat} (h : sub a b = true) {i : Nat} (hi : tb a i = true) : tb b i = true := by
  unfold sub at h
  rw [tb_eq] at *
  have h : a &&& b = a := Nat.eq_of_beq_eq_true h
  rw [← h, Nat.testBit_and, Bool.and_eq_true] at hi
  exact hi.2
theorem sub_of {a b : Nat} (h : ∀ i, tb a i = true → tb b i = true) : sub a b = true := by
  unfold sub
  have : a &&& b = a := by
    apply Nat.eq_of_testBit_eq
    intro i
    rw [Nat.testBit_and]
    have := h i
    rw [tb_eq, tb_eq] at this
    cases ha : a.testBit i with
    | false => rfl
    | true => rw [this ha]; rfl
  show Nat.beq (a &&& b) a = true
  rw [this]; exact Nat.beq_refl a
theorem tb_zero (i : Nat) : tb 0 i = false := by rw [tb_eq]; simp
theorem mask_bit {l : List Nat} {e : Nat} : tb (maskOf l) e = true ↔ e ∈ l := by
  induction l with
  | nil => simp [maskOf, tb_zero]
  | cons x l ih =>
    rw [maskOf, bt_bit, Bool.or_eq_true, ih, decide_eq_true_eq, List.mem_cons]
    constructor
    · rintro (h | h); exact .inr h; exact .inl h.symm
    · rintro (h | h); exact .inr h.symm; exact .inl h

/-- A set of operations with all that they wait for. -/
def Down (all : List Oper) (D : Nat → Prop) : Prop := ∀ i o, all[i]? = some o → D i → ∀ e ∈ bindOn o, D e
structure PreOk (P : Program) (fl : Bool) (all : List Oper) (p : Pre) : Prop where
  at' : all[p.i]? = some p.o
  lt : ∀ e ∈ bindOn p.o, e < p.i
  b : ∀ e, tb p.b e = true ↔ e ∈ bindOn p.o
  a : ∀ D, Down all D → (∀ e ∈ bindOn p.o, D e) → ∀ e, tb p.a e = true → D e
  st : p.st = stays P p.o.op
  fl : p.fl = (fl && isFlt p.o)
theorem stays_still {op : Op} (h : stays P op = true) : isStill P op = true := by
  unfold stays at h
  split at h
  · cases h
  · exact h

theorem nth_lt {α : Type} : ∀ {l : List α} {i : Nat} {x : α}, nth l i = some x → l[i]? = some x
  | [], i, x, h => by cases h
  | a :: l, 0, x, h => by simpa [nth] using h
  | a :: l, k + 1, x, h => by rw [nth] at h; simpa using nth_lt h

theorem closure_some {D : Nat → Prop} {tbl : List Nat} {i : Nat} (ht : ∀ e x, e < i → tbl[i - 1 - e]? = some x → D e → ∀ j, tb x j = true → D j) :
    ∀ {l : List Nat} {m x : Nat}, closure tbl i l m = some x → (∀ e ∈ l, e < i) ∧ ((∀ e ∈ l, D e) → (∀ j, tb m j = true → D j) → ∀ j, tb x j = true → D j)
  | [], m, x, h => by
    injection h with h; subst h
    exact ⟨by simp, fun _ h => h⟩
  | e :: l, m, x, h => by
    rw [closure] at h
    split at h
    · rename_i hb
      split at h
      · rename_i y hy
        have hlt : e < i := Nat.le_of_ble_eq_true hb
        obtain ⟨h1, h2⟩ := closure_some ht h
        refine ⟨fun k hk => by rcases List.mem_cons.1 hk with rfl | hk; exact hlt; exact h1 k hk, fun hD hm => h2 (fun k hk => hD k (by simp [hk])) fun j hj => ?_⟩
        rw [lor_bit, bt_bit, Bool.or_eq_true, Bool.or_eq_true, decide_eq_true_eq] at hj
        rcases hj with (hj | rfl) | hj
        · exact hm j hj
        · exact hD _ (by simp)
        · exact ht e y hlt (nth_lt hy) (hD e (by simp)) j hj
      · cases h
    · cases h

theorem mkPre_some {fl : Bool} {all : List Oper} : ∀ {l pre : List Oper} {tbl : List Nat} {acc ps : List Pre}, all = pre ++ l → mkPre P fl l pre.length tbl acc = some ps →
    (∀ D, Down all D → ∀ e x, e < pre.length → tbl[pre.length - 1 - e]? = some x → D e → ∀ j, tb x j = true → D j) → (∀ p ∈ acc, PreOk P fl all p) → (∀ i, i < pre.length → ∃ p ∈ acc, p.i = i) →
    (∀ p ∈ ps, PreOk P fl all p) ∧ ∀ i, i < all.length → ∃ p ∈ ps, p.i = i
  | [], pre, tbl, acc, ps, he, h, _, ha, hi => by
    injection h with h; subst h
    exact ⟨ha, fun i h => hi i (by simpa [he] using h)⟩
  | o :: l, pre, tbl, acc, ps, he, h, ht, ha, hi => by
    rw [mkPre] at h
    split at h
    · rename_i x hx
      rw [forceN_eq] at h
      have ho : all[pre.length]? = some o := by rw [he]; simp
      have hcl := fun D hD => closure_some (ht D hD) hx
      have hlt : ∀ e ∈ bindOn o, e < pre.length := (hcl (fun _ => True) (fun _ _ _ _ _ _ => trivial)).1
      have h : mkPre P fl l (pre ++ [o]).length (x :: tbl) (⟨pre.length, o, maskOf (bindOn o), x, stays P o.op, fl && isFlt o⟩ :: acc) = some ps := by simpa using h
      refine mkPre_some (by simp [he]) h (fun D hD e y hlt' hy hDe j hj => ?_) (fun p hp => ?_) fun i hi' => ?_
      · simp only [List.length_append, List.length_cons, List.length_nil, Nat.zero_add, Nat.add_sub_cancel] at hy hlt'
        by_cases hee : e = pre.length
        · subst hee
          simp only [Nat.sub_self, List.getElem?_cons_zero, Option.some.injEq] at hy
          subst hy
          exact (hcl D hD).2 (hD _ _ ho hDe) (by simp [tb_zero]) j hj
        · have : pre.length - e = (pre.length - 1 - e) + 1 := by omega
          rw [this, List.getElem?_cons_succ] at hy
          exact ht D hD e y (by omega) hy hDe j hj
      · rcases List.mem_cons.1 hp with rfl | hp
        · exact ⟨ho, hlt, fun e => mask_bit, fun D hD hb e he => (hcl D hD).2 hb (by simp [tb_zero]) e he, rfl, rfl⟩
        · exact ha p hp
      · by_cases hee : i = pre.length
        · exact ⟨_, List.mem_cons_self, hee.symm⟩
        · obtain ⟨p, hp, e⟩ := hi i (by simp at hi'; omega)
          exact ⟨p, by simp [hp], e⟩
    · cases h

structure PsOk (P : Program) (all : List Oper) (ps : List Pre) : Prop where
  each : ∃ fl, ∀ p ∈ ps, PreOk P fl all p
  full : ∀ i, i < all.length → ∃ p ∈ ps, p.i = i
  names : ∀ p ∈ ps, ∀ t ∈ tmpsOf all p.o, ∀ q ∈ ps, q.o.dst = some t → tb p.a q.i = true ∨ (q.st = false ∧ q.fl = false)
  flt : ∀ p ∈ ps, p.fl = true → ∀ q ∈ ps, ∀ d, q.o.dst = some d → d ≤ 1000000 ∧ (d ∈ tmpsOf all p.o → tb p.a q.i = true) ∧ (p.o.dst = some d → p.i = q.i)

theorem planBy_some {fl : Bool} {all : List Oper} {pl : Plan} (h : planBy P fl all = some pl) : ∃ ps, PsOk P all ps ∧ P.follows .mixedOrders = true ∧ mkPlan ps (all.length + 1) 0 0 [] = some pl := by
  unfold planBy at h
  split at h
  · rename_i ps hps
    split at h
    · rename_i hb
      rw [Bool.and_eq_true, Bool.and_eq_true] at hb
      have hp : mkPre P fl all ([] : List Oper).length [] [] = some ps := hps
      obtain ⟨h1, h2⟩ := mkPre_some (all := all) rfl hp (by simp) (by simp) (by simp)
      refine ⟨ps, ⟨⟨fl, h1⟩, h2, fun p hp t ht q hq hd => ?_, fun p hp hf q hq d hd => ?_⟩, hb.2, h⟩
      · have hn := hb.1.1
        unfold namesOk at hn
        have := List.all_eq_true.1 (List.all_eq_true.1 (List.all_eq_true.1 hn p hp) t ht) q hq
        have hdst : isDst t q = true := by unfold isDst; rw [hd]; exact Nat.beq_refl t
        rw [hdst] at this
        simpa using this
      · have hn := hb.1.2
        unfold fltOk at hn
        have := List.all_eq_true.1 hn p hp
        rw [hf] at this
        simp only [Bool.not_true, Bool.false_or] at this
        have := List.all_eq_true.1 this q hq
        rw [hd] at this
        simp only [Bool.and_eq_true] at this
        obtain ⟨⟨k1, k2⟩, k3⟩ := this
        refine ⟨Nat.le_of_ble_eq_true k1, fun hm => ?_, fun hd' => ?_⟩
        · have : (tmpsOf all p.o).contains d = true := by simpa using hm
          rw [this] at k2
          simpa using k2
        · rw [hd'] at k3
          simpa [Nat.beq_eq] using k3
    · cases h
  · cases h
theorem planOf_some {all : List Oper} {pl : Plan} (h : planOf P all = some pl) : ∃ ps, PsOk P all ps ∧ P.follows .mixedOrders = true ∧ mkPlan ps (all.length + 1) 0 0 [] = some pl := by
  unfold planOf at h
  split at h
  · rename_i p hp
    injection h with h; subst h
    exact planBy_some hp
  · exact planBy_some h
end Go.Eb

/-
The closed evaluator: regions that draw their order.
-/
set_option linter.unusedVariables false
set_option linter.unusedSimpArgs false
namespace Go.Eb
variable {A : Type} {P : Program} {w0 : World} {g : Env} {F : Fr} {M : Mm} {n m : Nat} {a : Act} {w : World} {r : A} {ops : Array Oper} {ps : List Pre} {D must : Nat} {listed : Array Bool}

theorem same1_rep {a b : V} {cv : Value} (h : same1 a b = true) (ha : Rep g a cv) : Rep g b cv := by
  unfold same1 at h
  split at h
  · rename_i x y
    have : x = y := by simpa using h
    subst this; exact ha
  · simp only [Bool.and_eq_true, decide_eq_true_eq, eqI_eq] at h
    obtain ⟨rfl, rfl⟩ := h; exact ha
  · exact ha
  · simp only [Bool.and_eq_true, Nat.beq_eq] at h
    obtain ⟨rfl, rfl⟩ := h; exact ha
  · simp only [Nat.beq_eq] at h
    subst h; exact ha
  · exact ha
  · simp only [Bool.and_eq_true, Nat.beq_eq] at h
    obtain ⟨⟨⟨rfl, rfl⟩, rfl⟩, rfl⟩ := h; exact ha
  · exact ha
  · simp only [Nat.beq_eq] at h
    subst h; exact ha
  · exact ha
  · simp only [Nat.beq_eq] at h
    subst h; exact ha
  · exact ha
  · simp only [Bool.and_eq_true, Nat.beq_eq] at h
    obtain ⟨⟨⟨⟨rfl, rfl⟩, rfl⟩, rfl⟩, rfl⟩ := h; exact ha
  · exact ha
  · exact ha
  · simp only [Bool.and_eq_true, decide_eq_true_eq, eqI_eq] at h
    obtain ⟨⟨rfl, rfl⟩, rfl⟩ := h; exact ha
  · simp only [Bool.and_eq_true, Nat.beq_eq] at h
    obtain ⟨rfl, rfl⟩ := h; exact ha
  · cases h
theorem sameS_rep {a b : V} {cv : Value} (h : sameS a b = true) (ha : Rep g a cv) : Rep g b cv := by
  unfold sameS at h
  split at h
  · rw [eqL_eq, decide_eq_true_eq] at h
    subst h; exact ha
  · exact same1_rep h ha
theorem same1_c1 {a b : V} (h : same1 a b = true) : c1 a = true → c1 b = true := by
  unfold same1 at h
  split at h <;> first | (intro _; rfl) | cases h
theorem sameS_c1 {a b : V} (h : sameS a b = true) : c1 a = true → c1 b = true := by
  unfold sameS at h
  split at h
  · intro _; rfl
  · exact same1_c1 h
theorem sameL_rep : ∀ {a b : List V} {cv : List Value}, sameL a b = true → RepL g a cv → RepL g b cv ∧ ((∀ c ∈ a, c1 c = true) → ∀ c ∈ b, c1 c = true)
  | [], [], cv, h, ha => ⟨ha, fun h => h⟩
  | x :: a, y :: b, cv, h, ha => by
    rw [sameL, Bool.and_eq_true] at h
    obtain ⟨v, vs, rfl, hv, hvs⟩ := ha.inv
    obtain ⟨h1, h2⟩ := sameL_rep h.2 hvs
    refine ⟨.cons (sameS_rep h.1 hv) h1, fun hc c hcm => ?_⟩
    rcases List.mem_cons.1 hcm with rfl | hcm
    · exact sameS_c1 h.1 (hc _ (by simp))
    · exact h2 (fun c hc' => hc c (by simp [hc'])) c hcm
  | [], _ :: _, cv, h, ha => by simp [sameL] at h
  | _ :: _, [], cv, h, ha => by simp [sameL] at h
theorem sameA_rep {a b : V} {cv : Value} (h : sameA a b = true) (ha : Rep g a cv) : Rep g b cv := by
  unfold sameA at h
  split at h
  · cases ha with | agg hl h1 => obtain ⟨h2, h3⟩ := sameL_rep h hl; exact .agg h2 (h3 h1)
  · exact sameS_rep h ha
theorem sameLA_rep : ∀ {a b : List V} {cv : List Value}, sameLA a b = true → RepL g a cv → RepL g b cv
  | [], [], cv, h, ha => ha
  | x :: a, y :: b, cv, h, ha => by
    rw [sameLA, Bool.and_eq_true] at h
    obtain ⟨v, vs, rfl, hv, hvs⟩ := ha.inv
    exact .cons (sameA_rep h.1 hv) (sameLA_rep h.2 hvs)
  | [], _ :: _, cv, h, ha => by simp [sameLA] at h
  | _ :: _, [], cv, h, ha => by simp [sameLA] at h
theorem sameV_rep {a b : V} {cv : Value} (h : sameV a b = true) (ha : Rep g a cv) : Rep g b cv := by
  unfold sameV at h
  split at h
  · cases ha with | tup hl => exact .tup (sameLA_rep h hl)
  · rw [Bool.and_eq_true, Nat.beq_eq] at h
    obtain ⟨rfl, h⟩ := h
    cases ha with | clo hl => exact .clo (sameLA_rep h hl)
  · exact sameA_rep h ha

/-- Taken. -/
def Lst (listed : Array Bool) (i : Nat) : Prop := listed[i]? = some true
/-- The run's own order, against the plan's. -/
structure Inv (ops : Array Oper) (ps : List Pre) (listed : Array Bool) (D must : Nat) (g : Env) (F : Fr) (m : Nat) (a : Act) : Prop where
  size : listed.size = ops.size
  sub : ∀ i, Lst listed i → tb D i = true
  acts : ∀ p ∈ ps, tb D p.i = true → p.st = false → p.fl = false → Lst listed p.i
  down : Down ops.toList (Lst listed)
  must : ∀ i, tb must i = true → Lst listed i
  sz : m = a.tmps.size
  defers : a.defers = []
  lt : ∀ t v, F.get t = some v → t < m
  slot : ∀ t v, F.get t = some v → (∀ q ∈ ps, q.o.dst = some t → tb D q.i = true → Lst listed q.i) → Rep g v (a.tmps.getD t undef)

theorem Inv.mono {g' : Env} (h : Inv ops ps listed D must g F m a) (hs : Sub g g') : Inv ops ps listed D must g' F m a :=
  ⟨h.size, h.sub, h.acts, h.down, h.must, h.sz, h.defers, h.lt, fun t v h1 h2 => (h.slot t v h1 h2).mono hs⟩
theorem Inv.slots (h : Inv ops ps listed D must g F m a) (ok : PsOk P ops.toList ps) {p : Pre} (hp : p ∈ ps) (hb : ∀ e ∈ bindOn p.o, Lst listed e) : SlotR g F a (tmpsOf ops.toList p.o) := fun t ht v hv =>
  h.slot t v hv fun q hq hd hD => by
    rcases ok.names p hp t ht q hq hd with h1 | h1
    · obtain ⟨_, he⟩ := ok.each; exact (he p hp).a _ h.down hb _ h1
    · exact h.acts q hq hD h1.1 h1.2
theorem PsOk.at' {all : List Oper} (ok : PsOk P all ps) {p : Pre} (hp : p ∈ ps) : all[p.i]? = some p.o := by obtain ⟨_, he⟩ := ok.each; exact (he p hp).at'
theorem PsOk.same (ok : PsOk P ops.toList ps) {p q : Pre} (hp : p ∈ ps) (hq : q ∈ ps) (h : p.i = q.i) : q.o = p.o ∧ q.st = p.st ∧ q.fl = p.fl := by
  have h1 := ok.at' hq
  have h2 := ok.at' hp
  rw [← h, h2] at h1; injection h1 with h1
  obtain ⟨_, he⟩ := ok.each
  exact ⟨h1.symm, by rw [(he q hq).st, (he p hp).st, h1], by rw [(he q hq).fl, (he p hp).fl, h1]⟩
theorem PsOk.lt (ok : PsOk P ops.toList ps) {p : Pre} (hp : p ∈ ps) : p.i < ops.size := by
  have := ok.at' hp
  rw [Array.getElem?_toList] at this
  exact (Array.getElem?_eq_some_iff.1 this).1
/-- The plan goes on alone. -/
theorem Inv.ahead (h : Inv ops ps listed D must g F m a) (ok : PsOk P ops.toList ps) {p : Pre} (hp : p ∈ ps) (hst : p.st = true ∨ p.fl = true) (hD : tb D p.i = false) {F' : Fr} {v : V}
    (hF : F' = F ∨ ∃ d, p.o.dst = some d ∧ d < m ∧ F' = F.set d (some v)) : Inv ops ps listed (bt D p.i) must g F' m a := by
  have hnl : ¬ Lst listed p.i := fun hl => by rw [h.sub _ hl] at hD; cases hD
  refine ⟨h.size, fun i hi => by rw [bt_bit, h.sub i hi]; rfl, fun q hq hb hs hs' => ?_, h.down, h.must, h.sz, h.defers, fun t u hu => ?_, fun t u hu hall => ?_⟩
  · rw [bt_bit, Bool.or_eq_true, decide_eq_true_eq] at hb
    rcases hb with hb | hb
    · exact h.acts q hq hb hs hs'
    · rw [(ok.same hp hq hb).2.1] at hs
      rw [(ok.same hp hq hb).2.2] at hs'
      rcases hst with hst | hst
      · rw [hst] at hs; cases hs
      · rw [hst] at hs'; cases hs'
  · rcases hF with rfl | ⟨d, hd, hlt, rfl⟩
    · exact h.lt t u hu
    · rcases T.get_set hu with ⟨rfl, _⟩ | ⟨_, hu⟩
      · exact hlt
      · exact h.lt t u hu
  · have hold : ∀ t, (∀ q ∈ ps, q.o.dst = some t → tb (bt D p.i) q.i = true → Lst listed q.i) → (∀ q ∈ ps, q.o.dst = some t → tb D q.i = true → Lst listed q.i) := fun t hall q hq hd hb => hall q hq hd (by rw [bt_bit, hb]; rfl)
    rcases hF with rfl | ⟨d, hd, _, rfl⟩
    · exact h.slot t u hu (hold t hall)
    · rcases T.get_set hu with ⟨rfl, _⟩ | ⟨_, hu⟩
      · exact absurd (hall p hp hd (by rw [bt_bit]; simp)) hnl
      · exact h.slot t u hu (hold t hall)

theorem lst_set {i j : Nat} (hi : i < listed.size) : Lst (listed.setIfInBounds i true) j ↔ Lst listed j ∨ j = i := by
  unfold Lst
  rw [Array.getElem?_setIfInBounds]
  by_cases h : i = j
  · subst h; simp [hi]
  · rw [if_neg h]; exact ⟨.inl, fun e => e.resolve_right fun e => h e.symm⟩
theorem put_get {o : Option Tmp} {cv : Value} {t : Nat} (h : o ≠ some t) : (a.put o cv).tmps.getD t undef = a.tmps.getD t undef := by
  unfold Act.put
  split
  · rename_i d
    have hne : d ≠ t := fun e => h (by rw [e])
    simp [Array.getElem?_setIfInBounds, hne]
  · rfl
theorem put_size {o : Option Tmp} {cv : Value} : (a.put o cv).tmps.size = a.tmps.size ∧ (a.put o cv).defers = a.defers := by
  unfold Act.put
  split <;> simp
/-- The run takes what the plan has taken before. -/
theorem Inv.after (h : Inv ops ps listed D must g F m a) (ok : PsOk P ops.toList ps) {p : Pre} (hp : p ∈ ps) (hD : tb D p.i = true) (hb : ∀ e ∈ bindOn p.o, Lst listed e) {cv : Value}
    (hu : ∀ d, p.o.dst = some d → ∃ u, F.get d = some u ∧ Rep g u cv) : Inv ops ps (listed.setIfInBounds p.i true) D must g F m (a.put p.o.dst cv) := by
  have hi : p.i < listed.size := by rw [h.size]; exact ok.lt hp
  refine ⟨by rw [Array.size_setIfInBounds]; exact h.size, fun i hl => ?_, fun q hq hq1 hq2 hq3 => (lst_set hi).2 (.inl (h.acts q hq hq1 hq2 hq3)), fun i o ho hl e he => (lst_set hi).2 (.inl ?_), fun i hm => (lst_set hi).2 (.inl (h.must i hm)), by rw [put_size.1]; exact h.sz, put_size.2.trans h.defers, h.lt, fun t x hx hall => ?_⟩
  · rcases (lst_set hi).1 hl with hl | rfl
    · exact h.sub i hl
    · exact hD
  · rcases (lst_set hi).1 hl with hl | rfl
    · exact h.down i o ho hl e he
    · have := ok.at' hp
      rw [this] at ho; injection ho with ho; subst ho
      exact hb e he
  · by_cases hd : p.o.dst = some t
    · obtain ⟨u, h1, h2⟩ := hu t hd
      rw [hx] at h1; injection h1 with h1; subst h1
      have hlt : t < a.tmps.size := by rw [← h.sz]; exact h.lt t _ hx
      rw [hd]
      simpa [Act.put, Array.getElem?_setIfInBounds, hlt] using h2
    · rw [put_get hd]
      refine h.slot t x hx fun q hq hqd hqD => ?_
      rcases (lst_set hi).1 (hall q hq hqd hqD) with hl | hl
      · exact hl
      · exact absurd ((ok.same hp hq hl.symm).1 ▸ hqd) hd
/-- The run and the plan take one together. -/
theorem Inv.both (h : Inv ops ps listed D must g F m a) (ok : PsOk P ops.toList ps) {p : Pre} (hp : p ∈ ps) (hb : ∀ e ∈ bindOn p.o, Lst listed e) {v : V} {cv : Value} (hv : Rep g v cv) {K : Fr → Option A} (hk : putK m F p.o.dst v K = some r) :
    ∃ F', K F' = some r ∧ Inv ops ps (listed.setIfInBounds p.i true) (bt D p.i) (Nat.lor (bt must p.i) p.a) g F' m (a.put p.o.dst cv) := by
  have hi : p.i < listed.size := by rw [h.size]; exact ok.lt hp
  have hl : ∀ j, Lst (listed.setIfInBounds p.i true) j ↔ Lst listed j ∨ j = p.i := fun j => lst_set hi
  have hdown : Down ops.toList (Lst (listed.setIfInBounds p.i true)) := fun i o ho hl' e he => (hl _).2 (.inl (by
    rcases (hl _).1 hl' with hl' | rfl
    · exact h.down i o ho hl' e he
    · have := ok.at' hp
      rw [this] at ho; injection ho with ho; subst ho
      exact hb e he))
  have base : ∀ F', (∀ t v, F'.get t = some v → t < m) → (∀ t x, F'.get t = some x → (∀ q ∈ ps, q.o.dst = some t → tb (bt D p.i) q.i = true → Lst (listed.setIfInBounds p.i true) q.i) → Rep g x ((a.put p.o.dst cv).tmps.getD t undef)) →
      Inv ops ps (listed.setIfInBounds p.i true) (bt D p.i) (Nat.lor (bt must p.i) p.a) g F' m (a.put p.o.dst cv) := fun F' hlt hsl => by
    refine ⟨by rw [Array.size_setIfInBounds]; exact h.size, fun i hl' => ?_, fun q hq hq1 hq2 hq3 => (hl _).2 ?_, hdown, fun i hm => ?_, by rw [put_size.1]; exact h.sz, put_size.2.trans h.defers, hlt, hsl⟩
    · rw [bt_bit, Bool.or_eq_true, decide_eq_true_eq]
      rcases (hl _).1 hl' with hl' | rfl
      · exact .inl (h.sub i hl')
      · exact .inr rfl
    · rw [bt_bit, Bool.or_eq_true, decide_eq_true_eq] at hq1
      rcases hq1 with hq1 | hq1
      · exact .inl (h.acts q hq hq1 hq2 hq3)
      · exact .inr hq1.symm
    · rw [lor_bit, bt_bit, Bool.or_eq_true, Bool.or_eq_true, decide_eq_true_eq] at hm
      rcases hm with (hm | rfl) | hm
      · exact (hl _).2 (.inl (h.must i hm))
      · exact (hl _).2 (.inr rfl)
      · obtain ⟨_, he⟩ := ok.each; exact (hl _).2 (.inl ((he p hp).a _ h.down hb _ hm))
  have old : ∀ t, p.o.dst ≠ some t → (∀ q ∈ ps, q.o.dst = some t → tb (bt D p.i) q.i = true → Lst (listed.setIfInBounds p.i true) q.i) → (∀ q ∈ ps, q.o.dst = some t → tb D q.i = true → Lst listed q.i) := fun t hd hall q hq hqd hqD => by
    rcases (hl _).1 (hall q hq hqd (by rw [bt_bit, hqD]; rfl)) with hl' | hl'
    · exact hl'
    · exact absurd ((ok.same hp hq hl'.symm).1 ▸ hqd) hd
  rcases putK_some hk with ⟨hd, hk⟩ | ⟨d, hd, hlt, hk⟩
  · refine ⟨F, hk, base F h.lt fun t x hx hall => ?_⟩
    rw [put_get (by rw [hd]; simp)]
    exact h.slot t x hx (old t (by rw [hd]; simp) hall)
  · refine ⟨_, hk, base _ (fun t x hx => ?_) fun t x hx hall => ?_⟩
    · rcases T.get_set hx with ⟨rfl, _⟩ | ⟨_, hx⟩
      · exact hlt
      · exact h.lt t x hx
    · rcases T.get_set hx with ⟨rfl, e⟩ | ⟨hne, hx⟩
      · injection e with e; subst e
        have hlt : t < a.tmps.size := by rw [← h.sz]; exact hlt
        rw [hd]
        simpa [Act.put, Array.getElem?_setIfInBounds, hlt] using hv
      · have hnd : p.o.dst ≠ some t := by rw [hd]; intro e; injection e with e; exact hne e.symm
        rw [put_get hnd]
        exact h.slot t x hx (old t hnd hall)
end Go.Eb
