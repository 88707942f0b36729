/-
What abstract values stand for: concrete values in a heap; which memory is owned, which is written by nobody.
-/
import Derived.Test.YthglbpibfhfgnaaGreatDoorEvDef
set_option linter.unusedVariables false
namespace Go.Ev

def cellAt (h : Array Obj) (b o : Nat) : Option Value := match h[b]? with
  | some (.cells c _ _) => c[o]?
  | _ => none

/-- Where own memory lies: its block (none: a nil slice), and of a row: its capacity, its length, its elements' cells. -/
structure Loc where
  obj : Bool
  blk : Option Nat
  cap : Nat
  n : Nat
  sz : Nat

structure Env where
  h : Array Obj
  st : Bool → Nat → Prop
  g : Nat → Option Loc

def openB (fr : Nat × Nat) (n : Nat) : Prop := ∀ k, k < n → ¬ (fr.1 ≤ k ∧ k < fr.2)
def flat (els : List AV) : List AV := els.flatMap cellsOf
def MX : Nat := 140737488355328
/-- The cells of a block from o on. -/
def At (h : Array Obj) (b o : Nat) (vs : List Value) : Prop := ∀ k v, vs[k]? = some v → cellAt h b (o + k) = some v
def Loc.at (l : Loc) (off : Nat) (a : Option Addr) : Prop := (off < l.cap ∨ off = 0) → a = l.blk.map fun b => ⟨b, off * l.sz, none⟩

mutual
inductive Rep (E : Env) : AV → Value → List Nat → Prop where
  | bool (b : Bool) : Rep E (.bool b) (.bool b) []
  | int (k : IntKind) (n : Int) : Rep E (.int k n) (.int k n) []
  | str (s : ByteArray) (h : s.size ≤ MX) : Rep E (.str s) (.string s) []
  | nilp : Rep E .nilp (.pointer none) []
  | nilf : Rep E .nilf .nilFunc []
  | nili : Rep E .nili .nilIface []
  | nilm : Rep E .nilm (.map none) []
  | undef (v : Value) : Rep E .undef v []
  | loc {id j : Nat} {l : Loc} {b : Nat} (hg : E.g id = some l) (ho : l.obj = true) (hb : l.blk = some b) : Rep E (.loc id j) (.pointer (some ⟨b, j, none⟩)) []
  | elp {id n i j : Nat} {l : Loc} {v : Value} (hg : E.g id = some l) (ho : l.obj = false) (hn : n ≤ l.n) (hv : ∃ p, v = .pointer (some p)) (h : l.n = n → ∃ b, l.blk = some b ∧ v = .pointer (some ⟨b, i * l.sz + j, none⟩)) : Rep E (.elp id n i j) v []
  | row {id n off len : Nat} {l : Loc} {v : Value} (hg : E.g id = some l) (ho : l.obj = false) (hn : n ≤ l.n) (hv : ∃ a c, v = .slice a len c) (h : l.n = n → ∃ a, v = .slice a len (l.cap - off) ∧ l.at off a) : Rep E (.row id n off len) v []
  | rowc {id n off len : Nat} {l : Loc} {v : Value} (hg : E.g id = some l) (ho : l.obj = false) (hn : n ≤ l.n) (hv : ∃ a, v = .slice a len len) (h : l.n = n → ∃ a, v = .slice a len len ∧ (0 < len → a = l.blk.map fun b => ⟨b, off * l.sz, none⟩)) : Rep E (.rowc id n off len) v []
  | mp {id : Nat} {l : Loc} {b : Nat} (hg : E.g id = some l) (ho : l.obj = true) (hb : l.blk = some b) : Rep E (.mp id) (.map (some b)) []
  | fz {cs : List AV} {b o : Nat} {vs : List Value} (hs : E.st false b) (ha : At E.h b o vs) (h : RepL E cs vs []) : Rep E (.fz cs) (.pointer (some ⟨b, o, none⟩)) []
  | optr {e : AV} {j b : Nat} {cells : Array Value} {ty : TypeId} {fr : Nat × Nat} {l : List Nat} (hb : E.h[b]? = some (.cells cells ty fr)) (ho : openB fr cells.size) (h1 : allC1 (cellsOf e) = true)
      (h : RepL E (cellsOf e) cells.toList l) : Rep E (.optr e j) (.pointer (some ⟨b, j, none⟩)) (b :: l)
  | lst0 (fl : Bool) (sz : Nat) (a : Option Addr) (cap : Nat) : Rep E (.lst fl sz []) (.slice a 0 cap) []
  | lst {fl : Bool} {sz : Nat} {els : List AV} {b o cap : Nat} {vs : List Value} (hn : els ≠ []) (hc : els.length ≤ cap) (hm : els.length ≤ MX) (hs : E.st fl b)
      (hz : ∀ e ∈ els, okE sz e) (ha : At E.h b o vs) (h : RepL E (flat els) vs []) : Rep E (.lst fl sz els) (.slice (some ⟨b, o, none⟩) els.length cap) []
  | olst0 (sz : Nat) : Rep E (.olst sz []) (.slice none 0 0) []
  | olst {sz : Nat} {els : List AV} {b cap : Nat} {cells : Array Value} {ty : TypeId} {fr : Nat × Nat} {l : List Nat} (hb : E.h[b]? = some (.cells cells ty fr)) (ho : openB fr cells.size)
      (hc : cells.size = cap * sz) (hl : els.length ≤ cap) (hm : els.length ≤ MX) (hz : ∀ e ∈ els, okE sz e) (h : RepL E (flat els) (cells.toList.take (els.length * sz)) l) :
      Rep E (.olst sz els) (.slice (some ⟨b, 0, none⟩) els.length cap) (b :: l)
  | agg {cs : List AV} {vs : Array Value} {l : List Nat} (h : RepL E cs vs.toList l) : Rep E (.agg cs) (.agg vs) l
  | tup {cs : List AV} {vs : Array Value} {l : List Nat} (h : RepL E cs vs.toList l) : Rep E (.tup cs) (.tuple vs) l
  | clo {f : Nat} {cs : List AV} {vs : Array Value} {l : List Nat} (h : RepL E cs vs.toList l) : Rep E (.clo f cs) (.func (.func f) #[] vs) l
  | omp {ks vs : List AV} {es : Array MapEntry} {clock b : Nat} (hb : E.h[b]? = some (.map es clock)) (hk : RepL E ks (es.toList.map (·.key)) []) (hv : RepL E vs (es.toList.map (·.val)) []) : Rep E (.omp ks vs) (.map (some b)) [b]
inductive RepL (E : Env) : List AV → List Value → List Nat → Prop where
  | nil : RepL E [] [] []
  | cons {a : AV} {v : Value} {as : List AV} {vs : List Value} {l m : List Nat} (h : Rep E a v l) (t : RepL E as vs m) : RepL E (a :: as) (v :: vs) (l ++ m)
end

theorem RepL.length {E : Env} : ∀ {as : List AV} {vs : List Value} {l : List Nat}, RepL E as vs l → as.length = vs.length
  | _, _, _, .nil => rfl
  | _, _, _, .cons _ t => by simp [t.length]

theorem RepL.append {E : Env} : ∀ {as : List AV} {vs : List Value} {l : List Nat} {bs : List AV} {ws : List Value} {m : List Nat}, RepL E as vs l → RepL E bs ws m → RepL E (as ++ bs) (vs ++ ws) (l ++ m)
  | _, _, _, _, _, _, .nil, h => h
  | _, _, _, _, _, _, .cons (l := l) (m := m) h t, h' => by
    have := RepL.cons h (t.append h')
    simpa [List.append_assoc] using this

theorem RepL.split {E : Env} : ∀ {as : List AV} {bs : List AV} {ws : List Value} {l : List Nat}, RepL E (as ++ bs) ws l →
    ∃ vs1 vs2 l1 l2, ws = vs1 ++ vs2 ∧ l = l1 ++ l2 ∧ RepL E as vs1 l1 ∧ RepL E bs vs2 l2
  | [], bs, ws, l, h => ⟨[], ws, [], l, rfl, rfl, .nil, h⟩
  | a :: as, bs, _, _, .cons (v := v) (l := l) h t => by
    obtain ⟨vs1, vs2, l1, l2, rfl, rfl, h1, h2⟩ := RepL.split t
    exact ⟨v :: vs1, vs2, l ++ l1, l2, rfl, by simp, .cons h h1, h2⟩

theorem RepL.get {E : Env} {as : List AV} {vs : List Value} {l : List Nat} {i : Nat} {a : AV} (h : RepL E as vs l) (hi : as[i]? = some a) :
    ∃ v li, vs[i]? = some v ∧ Rep E a v li ∧ ∃ p q, l = p ++ li ++ q := by
  induction i generalizing as vs l with
  | zero =>
    cases h with
    | nil => simp at hi
    | cons h t => simp at hi; subst hi; exact ⟨_, _, rfl, h, [], _, by simp; rfl⟩
  | succ i ih =>
    cases h with
    | nil => simp at hi
    | cons h t =>
      obtain ⟨v, li, h1, h2, p, q, rfl⟩ := ih t (by simpa using hi)
      exact ⟨v, li, by simpa using h1, h2, _ ++ p, q, by rw [List.append_assoc, List.append_assoc, List.append_assoc]⟩

/-- The memory may grow, what is written on the way is neither stable nor owned by this. -/
structure Ext (E E' : Env) (l : List Nat) : Prop where
  heap : ∀ b, E.st false b ∨ b ∈ l → E'.h[b]? = E.h[b]?
  st : ∀ fl b, E.st fl b → E'.st fl b
  sub : ∀ b, E.st true b → E.st false b
  g : ∀ id x, E.g id = some x → ∃ x', E'.g id = some x' ∧ (x' = x ∨ x.obj = false ∧ x'.obj = false ∧ x.n < x'.n)

theorem Ext.mono {E E' : Env} {l m : List Nat} (h : Ext E E' l) (hm : ∀ b ∈ m, b ∈ l) : Ext E E' m :=
  ⟨fun b hb => h.heap b (hb.imp id (hm b)), h.st, h.sub, h.g⟩
theorem Ext.left {E E' : Env} {l m : List Nat} (h : Ext E E' (l ++ m)) : Ext E E' l := h.mono fun b hb => List.mem_append_left _ hb
theorem Ext.right {E E' : Env} {l m : List Nat} (h : Ext E E' (l ++ m)) : Ext E E' m := h.mono fun b hb => List.mem_append_right _ hb

theorem At.ext {E E' : Env} {b o : Nat} {vs : List Value} (h : At E.h b o vs) (he : E'.h[b]? = E.h[b]?) : At E'.h b o vs := fun k v hk => by
  have := h k v hk
  unfold cellAt at *
  rw [he]; exact this

theorem Rep.ext_both {E E' : Env} : (∀ {a : AV} {v : Value} {l : List Nat}, Rep E a v l → Ext E E' l → Rep E' a v l) ∧ (∀ {as : List AV} {vs : List Value} {l : List Nat}, RepL E as vs l → Ext E E' l → RepL E' as vs l) := by
  have key := fun (a : AV) (v : Value) (l : List Nat) (h : Rep E a v l) => @Rep.rec E (fun a v l _ => Ext E E' l → Rep E' a v l) (fun as vs l _ => Ext E E' l → RepL E' as vs l)
    (fun b _ => .bool b) (fun k n _ => .int k n) (fun s h _ => .str s h) (fun _ => .nilp) (fun _ => .nilf) (fun _ => .nili) (fun _ => .nilm) (fun v _ => .undef v)
    (fun hg ho hb x => by
      obtain ⟨x', hx, h | h⟩ := x.g _ _ hg
      · subst h; exact .loc hx ho hb
      · rw [ho] at h; cases h.1)
    (fun hg ho hn hv h x => by
      obtain ⟨x', hx, hh | hh⟩ := x.g _ _ hg
      · subst hh; exact .elp hx ho hn hv h
      · exact .elp hx hh.2.1 (by omega) hv (fun e => by omega))
    (fun hg ho hn hv h x => by
      obtain ⟨x', hx, hh | hh⟩ := x.g _ _ hg
      · subst hh; exact .row hx ho hn hv h
      · exact .row hx hh.2.1 (by omega) hv (fun e => by omega))
    (fun hg ho hn hv h x => by
      obtain ⟨x', hx, hh | hh⟩ := x.g _ _ hg
      · subst hh; exact .rowc hx ho hn hv h
      · exact .rowc hx hh.2.1 (by omega) hv (fun e => by omega))
    (fun hg ho hb x => by
      obtain ⟨x', hx, h | h⟩ := x.g _ _ hg
      · subst h; exact .mp hx ho hb
      · rw [ho] at h; cases h.1)
    (fun hs ha _ ih x => .fz (x.st _ _ hs) (ha.ext (x.heap _ (.inl hs))) (ih x))
    (fun hb ho h1 _ ih x => .optr ((x.heap _ (.inr (by simp))).trans hb) ho h1 (ih (x.mono fun b hb => by simp [hb])))
    (fun fl sz a cap _ => .lst0 fl sz a cap)
    (fun {fl} _ _ b _ _ _ hn hc hm hs hz ha _ ih x => by
      have hs' : E.st false b := by cases fl; exact hs; exact x.sub _ hs
      exact .lst hn hc hm (x.st _ _ hs) hz (ha.ext (x.heap _ (.inl hs'))) (ih x))
    (fun sz _ => .olst0 sz)
    (fun hb ho hc hl hm hz _ ih x => .olst ((x.heap _ (.inr (by simp))).trans hb) ho hc hl hm hz (ih (x.mono fun b hb => by simp [hb])))
    (fun _ ih x => .agg (ih x)) (fun _ ih x => .tup (ih x)) (fun _ ih x => .clo (ih x))
    (fun hb _ _ ih1 ih2 x => .omp ((x.heap _ (.inr (by simp))).trans hb) (ih1 (x.mono (by simp))) (ih2 (x.mono (by simp))))
    (fun _ => .nil) (fun _ _ ih1 ih2 x => .cons (ih1 x.left) (ih2 x.right)) a v l h
  refine ⟨fun {a v l} h => key a v l h, fun {as vs l} h => ?_⟩
  intro x
  induction as generalizing vs l with
  | nil => cases h; exact .nil
  | cons a as ih => cases h with | cons h t => exact .cons (key _ _ _ h x.left) (ih t x.right)
theorem Rep.ext {E E' : Env} {a : AV} {v : Value} {l : List Nat} (h : Rep E a v l) (x : Ext E E' l) : Rep E' a v l := Rep.ext_both.1 h x
theorem RepL.ext {E E' : Env} {as : List AV} {vs : List Value} {l : List Nat} (h : RepL E as vs l) (x : Ext E E' l) : RepL E' as vs l := Rep.ext_both.2 h x

/-! ### Values without handles from n on; without lent lists; lent -/
theorem bdL_mem {n : Nat} : ∀ {cs : List AV}, BdL n cs → ∀ v ∈ cs, Bd n v
  | [], _, _, h => by cases h
  | c :: cs, h, v, hv => by
    simp only [BdL] at h
    cases hv with
    | head => exact h.1
    | tail _ hv => exact bdL_mem h.2 v hv
theorem bdL_of {n : Nat} : ∀ {cs : List AV}, (∀ v ∈ cs, Bd n v) → BdL n cs
  | [], _ => by simp [BdL]
  | c :: cs, h => by simp only [BdL]; exact ⟨h c (by simp), bdL_of fun v hv => h v (by simp [hv])⟩
theorem bdL_iff {n : Nat} {cs : List AV} : BdL n cs ↔ ∀ v ∈ cs, Bd n v := ⟨bdL_mem, bdL_of⟩
theorem bdL_cells {n : Nat} {e : AV} (h : Bd n e) : BdL n (cellsOf e) := by
  cases e <;> simp only [cellsOf, BdL, and_true] <;> first | exact h | (simp only [Bd] at h; exact h)
theorem bdL_flat {n : Nat} {els : List AV} (h : BdL n els) : BdL n (flat els) := by
  rw [bdL_iff] at *
  intro v hv
  obtain ⟨e, he, hv⟩ := List.mem_flatMap.1 hv
  exact bdL_mem (bdL_cells (h e he)) v hv
theorem bdL_append {n : Nat} {as bs : List AV} : BdL n (as ++ bs) ↔ BdL n as ∧ BdL n bs := by
  simp only [bdL_iff, List.mem_append]
  exact ⟨fun h => ⟨fun v hv => h v (.inl hv), fun v hv => h v (.inr hv)⟩, fun h v hv => hv.elim (h.1 v) (h.2 v)⟩
theorem noFL_iff : ∀ {cs : List AV}, NoFL cs ↔ ∀ v ∈ cs, NoF v
  | [] => by simp [NoFL]
  | c :: cs => by simp [NoFL, noFL_iff]
theorem noFL_cells {e : AV} (h : NoF e) : NoFL (cellsOf e) := by
  cases e <;> simp only [cellsOf, NoFL, and_true] <;> first | exact h | (simp only [NoF] at h; exact h)
theorem noFL_flat {els : List AV} (h : NoFL els) : NoFL (flat els) := by
  rw [noFL_iff] at *
  intro v hv
  obtain ⟨e, he, hv⟩ := List.mem_flatMap.1 hv
  exact noFL_iff.1 (noFL_cells (h e he)) v hv

theorem Rep.rebase {E E' : Env} {n : Nat} (hh : E'.h = E.h) (hs : E'.st = E.st) (hg : ∀ id, id < n → E'.g id = E.g id) :
    (∀ {a : AV} {v : Value} {l : List Nat}, Rep E a v l → Bd n a → Rep E' a v l) := by
  intro a v l h
  refine @Rep.rec E (fun a v l _ => Bd n a → Rep E' a v l) (fun as vs l _ => BdL n as → RepL E' as vs l)
    (fun b _ => .bool b) (fun k n _ => .int k n) (fun s h _ => .str s h) (fun _ => .nilp) (fun _ => .nilf) (fun _ => .nili) (fun _ => .nilm) (fun v _ => .undef v)
    ?_ ?_ ?_ ?_ ?_ ?_ ?_ (fun fl sz a cap _ => .lst0 fl sz a cap) ?_ (fun sz _ => .olst0 sz) ?_ ?_ ?_ ?_ ?_ (fun _ => .nil) ?_ a v l h
  · intro id j l b h1 h2 h3 hb; simp only [Bd] at hb; exact .loc ((hg _ hb).trans h1) h2 h3
  · intro id n i j l v h1 h2 h3 hv h4 hb; simp only [Bd] at hb; exact .elp ((hg _ hb).trans h1) h2 h3 hv h4
  · intro id n i j l v h1 h2 h3 hv h4 hb; simp only [Bd] at hb; exact .row ((hg _ hb).trans h1) h2 h3 hv h4
  · intro id n i j l v h1 h2 h3 hv h4 hb; simp only [Bd] at hb; exact .rowc ((hg _ hb).trans h1) h2 h3 hv h4
  · intro id l b h1 h2 h3 hb; simp only [Bd] at hb; exact .mp ((hg _ hb).trans h1) h2 h3
  · intro cs b o vs h1 h2 _ ih hb; simp only [Bd] at hb; exact .fz (hs ▸ h1) (hh ▸ h2) (ih hb)
  · intro e j b cells ty fr l h1 h2 hc _ ih hb; simp only [Bd] at hb; exact .optr (hh ▸ h1) h2 hc (ih (bdL_cells hb))
  · intro fl sz els b o cap vs h1 h2 h3 h4 h5 h6 _ ih hb; simp only [Bd] at hb; exact .lst h1 h2 h3 (hs ▸ h4) h5 (hh ▸ h6) (ih (bdL_flat hb))
  · intro sz els b cap cells ty fr l h1 h2 h3 h4 h5 h6 _ ih hb; simp only [Bd] at hb; exact .olst (hh ▸ h1) h2 h3 h4 h5 h6 (ih (bdL_flat hb))
  · intro cs vs l _ ih hb; simp only [Bd] at hb; exact .agg (ih hb)
  · intro cs vs l _ ih hb; simp only [Bd] at hb; exact .tup (ih hb)
  · intro f cs vs l _ ih hb; simp only [Bd] at hb; exact .clo (ih hb)
  · intro ks vs es clock b hb _ _ ih1 ih2 hbd; simp only [Bd] at hbd; exact .omp (hh ▸ hb) (ih1 hbd.1) (ih2 hbd.2)
  · intro a v as vs l m _ _ ih1 ih2 hb; simp only [BdL] at hb; exact .cons (ih1 hb.1) (ih2 hb.2)
theorem RepL.rebase {E E' : Env} {n : Nat} (hh : E'.h = E.h) (hs : E'.st = E.st) (hg : ∀ id, id < n → E'.g id = E.g id) :
    ∀ {as : List AV} {vs : List Value} {l : List Nat}, RepL E as vs l → BdL n as → RepL E' as vs l
  | _, _, _, .nil, _ => .nil
  | _, _, _, .cons h t, hb => by simp only [BdL] at hb; exact .cons (h.rebase hh hs hg hb.1) (t.rebase hh hs hg hb.2)

theorem Rep.firm {E E' : Env} (hh : E'.h = E.h) (hs : ∀ b, E.st true b → E'.st true b) (hg : E'.g = E.g) :
    (∀ {a : AV} {v : Value} {l : List Nat}, Rep E a v l → NoF a → Rep E' a v l) := by
  intro a v l h
  refine @Rep.rec E (fun a v l _ => NoF a → Rep E' a v l) (fun as vs l _ => NoFL as → RepL E' as vs l)
    (fun b _ => .bool b) (fun k n _ => .int k n) (fun s h _ => .str s h) (fun _ => .nilp) (fun _ => .nilf) (fun _ => .nili) (fun _ => .nilm) (fun v _ => .undef v)
    ?_ ?_ ?_ ?_ ?_ ?_ ?_ (fun fl sz a cap _ => .lst0 fl sz a cap) ?_ (fun sz _ => .olst0 sz) ?_ ?_ ?_ ?_ ?_ (fun _ => .nil) ?_ a v l h
  · intro id j l b h1 h2 h3 _; exact .loc (hg ▸ h1) h2 h3
  · intro id n i j l v h1 h2 h3 hv h4 _; exact .elp (hg ▸ h1) h2 h3 hv h4
  · intro id n i j l v h1 h2 h3 hv h4 _; exact .row (hg ▸ h1) h2 h3 hv h4
  · intro id n i j l v h1 h2 h3 hv h4 _; exact .rowc (hg ▸ h1) h2 h3 hv h4
  · intro id l b h1 h2 h3 _; exact .mp (hg ▸ h1) h2 h3
  · intro cs b o vs h1 h2 _ ih hb; simp only [NoF] at hb
  · intro e j b cells ty fr l h1 h2 hc _ ih hb; simp only [NoF] at hb; exact .optr (hh ▸ h1) h2 hc (ih (noFL_cells hb))
  · intro fl sz els b o cap vs h1 h2 h3 h4 h5 h6 _ ih hb; simp only [NoF] at hb; obtain ⟨rfl, hb⟩ := hb; exact .lst h1 h2 h3 (hs _ h4) h5 (hh ▸ h6) (ih (noFL_flat hb))
  · intro sz els b cap cells ty fr l h1 h2 h3 h4 h5 h6 _ ih hb; simp only [NoF] at hb; exact .olst (hh ▸ h1) h2 h3 h4 h5 h6 (ih (noFL_flat hb))
  · intro cs vs l _ ih hb; simp only [NoF] at hb; exact .agg (ih hb)
  · intro cs vs l _ ih hb; simp only [NoF] at hb; exact .tup (ih hb)
  · intro f cs vs l _ ih hb; simp only [NoF] at hb; exact .clo (ih hb)
  · intro ks vs es clock b hb _ _ ih1 ih2 hbd; simp only [NoF] at hbd; exact .omp (hh ▸ hb) (ih1 hbd.1) (ih2 hbd.2)
  · intro a v as vs l m _ _ ih1 ih2 hb; simp only [NoFL] at hb; exact .cons (ih1 hb.1) (ih2 hb.2)
theorem RepL.firm {E E' : Env} (hh : E'.h = E.h) (hs : ∀ b, E.st true b → E'.st true b) (hg : E'.g = E.g) :
    ∀ {as : List AV} {vs : List Value} {l : List Nat}, RepL E as vs l → NoFL as → RepL E' as vs l
  | _, _, _, .nil, _ => .nil
  | _, _, _, .cons h t, hb => by simp only [NoFL] at hb; exact .cons (h.firm hh hs hg hb.1) (t.firm hh hs hg hb.2)

theorem lowL_length : ∀ (cs : List AV), (lowL cs).length = cs.length
  | [] => rfl
  | c :: cs => by simp [lowL, lowL_length cs]
theorem lowL_append : ∀ (as bs : List AV), lowL (as ++ bs) = lowL as ++ lowL bs
  | [], _ => rfl
  | a :: as, bs => by simp [lowL, lowL_append as bs]
theorem cellsOf_low (e : AV) : cellsOf (low e) = lowL (cellsOf e) := by
  cases e <;> simp [low, cellsOf, lowL]
theorem flat_lowL : ∀ (els : List AV), flat (lowL els) = lowL (flat els)
  | [] => rfl
  | e :: els => by
    have := flat_lowL els
    unfold flat at *
    simp only [lowL, List.flatMap_cons, lowL_append, cellsOf_low, this]
theorem C1_low (e : AV) : C1 (low e) = C1 e := by cases e <;> simp [low, C1]
theorem allC1_lowL : ∀ (cs : List AV), allC1 (lowL cs) = allC1 cs
  | [] => rfl
  | c :: cs => by simp [lowL, allC1, allC1_lowL cs, C1_low]
theorem lowL_mem : ∀ {els : List AV} {v : AV}, v ∈ lowL els → ∃ e ∈ els, v = low e
  | [], _, h => by cases h
  | e :: els, v, h => by
    simp only [lowL, List.mem_cons] at h
    rcases h with rfl | h
    · exact ⟨e, by simp, rfl⟩
    · obtain ⟨x, hx, rfl⟩ := lowL_mem h; exact ⟨x, by simp [hx], rfl⟩

theorem Rep.low {E : Env} (hsub : ∀ b, E.st true b → E.st false b) : (∀ {a : AV} {v : Value} {l : List Nat}, Rep E a v l → Rep E (Ev.low a) v l) := by
  intro a v l h
  refine @Rep.rec E (fun a v l _ => Rep E (Ev.low a) v l) (fun as vs l _ => RepL E (lowL as) vs l)
    (fun b => .bool b) (fun k n => .int k n) (fun s h => .str s h) .nilp .nilf .nili .nilm (fun v => .undef v)
    ?_ ?_ ?_ ?_ ?_ ?_ ?_ (fun fl sz a cap => .lst0 _ sz a cap) ?_ (fun sz => .olst0 sz) ?_ ?_ ?_ ?_ ?_ .nil ?_ a v l h
  · intro id j l b h1 h2 h3; exact .loc h1 h2 h3
  · intro id n i j l v h1 h2 h3 hv h4; exact .elp h1 h2 h3 hv h4
  · intro id n i j l v h1 h2 h3 hv h4; exact .row h1 h2 h3 hv h4
  · intro id n i j l v h1 h2 h3 hv h4; exact .rowc h1 h2 h3 hv h4
  · intro id l b h1 h2 h3; exact .mp h1 h2 h3
  · intro cs b o vs h1 h2 _ ih; exact .fz h1 h2 ih
  · intro e j b cells ty fr l h1 h2 hc h3 ih; exact .optr h1 h2 hc h3
  · intro fl sz els b o cap vs h1 h2 h3 h4 h5 h6 _ ih
    have hs' : E.st false b := by cases fl; exact h4; exact hsub _ h4
    have hl := lowL_length els
    have := @Rep.lst E false sz (lowL els) b o cap vs (by intro h; rw [h] at hl; exact h1 (List.eq_nil_of_length_eq_zero (by simpa using hl.symm))) (by omega) (by omega) hs'
      (by intro e he; obtain ⟨x, hx, rfl⟩ := lowL_mem he; unfold okE; rw [cellsOf_low, lowL_length, allC1_lowL]; exact h5 x hx) h6 (by rw [flat_lowL]; exact ih)
    rw [hl] at this
    exact this
  · intro sz els b cap cells ty fr l h1 h2 h3 h4 h5 h6 h7 ih; exact .olst h1 h2 h3 h4 h5 h6 h7
  · intro cs vs l _ ih; exact .agg ih
  · intro cs vs l h _; exact .tup h
  · intro f cs vs l h _; exact .clo h
  · intro ks vs es clock b hb hk hv _ _; exact .omp hb hk hv
  · intro a v as vs l m _ _ ih1 ih2; exact .cons ih1 ih2
theorem RepL.low {E : Env} (hsub : ∀ b, E.st true b → E.st false b) : ∀ {as : List AV} {vs : List Value} {l : List Nat}, RepL E as vs l → RepL E (lowL as) vs l
  | _, _, _, .nil => .nil
  | _, _, _, .cons h t => .cons (h.low hsub) (t.low hsub)
end Go.Ev
