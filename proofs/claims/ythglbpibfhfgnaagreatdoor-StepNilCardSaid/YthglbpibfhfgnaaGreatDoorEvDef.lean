/-
The abstract evaluator: what a loaded function's code does to abstract values (lists by value, own memory by small numbers), as a proposition that simp computes.
-/
import Derived.Orders
import Derived.Deep.Quiet
import Derived.StillTail
import Derived.Tactics
set_option linter.unusedVariables false
namespace Go.Ev

/-- Abstract values. `loc` (a cell of an object), `elp` (a cell of an element of a row of n), `row` (a part of a row of n; `rowc`: with no room behind it), `mp`: own memory of this activation, by number. `optr`, `olst`, `omp`: the same, owned and written out (at a call's border, and inside own memory). `lst`, `fz`: memory that nobody writes (fl: for good). -/
inductive AV where
  | bool (b : Bool)
  | int (k : IntKind) (n : Int)
  | str (s : ByteArray)
  | nilp
  | loc (id j : Nat)
  | elp (id n i j : Nat)
  | fz (cs : List AV)
  | optr (e : AV) (j : Nat)
  | lst (fl : Bool) (sz : Nat) (els : List AV)
  | row (id n off len : Nat)
  | rowc (id n off len : Nat)
  | olst (sz : Nat) (els : List AV)
  | agg (cs : List AV)
  | tup (vs : List AV)
  | nilf
  | clo (f : Nat) (caps : List AV)
  | nili
  | nilm
  | mp (id : Nat)
  | omp (ks vs : List AV)
  | undef

inductive Blk where
  | obj (e : AV)
  | row (sz : Nat) (els : List AV) (frz : Bool)
  | map (ks vs : List AV)

abbrev Mem := List (Nat × Blk)

/-- A state: the slots that are known, the own memory, the next number, how many slots there are. -/
structure S where
  t : List (Nat × AV)
  b : Mem
  n : Nat
  m : Nat

def look {α : Type} (k : Nat) : List (Nat × α) → Option α
  | [] => none
  | (k', v) :: r => if k' = k then some v else look k r
def setB (k : Nat) (v : Blk) : Mem → Mem
  | [] => []
  | (k', u) :: r => if k' = k then (k', v) :: r else (k', u) :: setB k v r
def delB (k : Nat) : Mem → Mem
  | [] => []
  | (k', u) :: r => if k' = k then r else (k', u) :: delB k r

def S.put (s : S) (d : Option Tmp) (v : AV) : S := match d with
  | none => s
  | some d => if d < s.m then { s with t := (d, v) :: s.t } else s

def cellsOf : AV → List AV
  | .agg cs => cs
  | v => [v]
/-- A value of one cell. -/
def C1 : AV → Bool
  | .agg _ | .tup _ | .undef => false
  | _ => true
def allC1 : List AV → Bool
  | [] => true
  | v :: r => C1 v && allC1 r
def okE (sz : Nat) (e : AV) : Prop := (cellsOf e).length = sz ∧ allC1 (cellsOf e) = true
def ofCells (agg : Bool) (cs : List AV) : AV := if agg then .agg cs else cs.headD .undef
/-- With other cells, in the same shape. -/
def reCells (e : AV) (cs : List AV) : AV := match e with
  | .agg _ => .agg cs
  | _ => cs.headD .undef
def putAt (cs : List AV) (j : Nat) (vs : List AV) : List AV := cs.take j ++ vs ++ cs.drop (j + vs.length)

/-- A constant's value. -/
def ofV1 : Value → AV
  | .bool b => .bool b
  | .int k n => .int k n
  | .string s => if s.size ≤ 140737488355328 then .str s else .undef
  | .pointer none => .nilp
  | .slice none 0 0 => .olst 0 []
  | .nilFunc => .nilf
  | .nilIface => .nili
  | .map none => .nilm
  | _ => .undef
def ofV : Value → AV
  | .agg cs => .agg (cs.toList.map ofV1)
  | v => ofV1 v

/-! ### Types -/
def szT (P : Program) (t : TypeId) : Nat := ((P.info? t).map (·.size)).getD 0
def byT (P : Program) (t : TypeId) : Nat := ((P.info? t).map (·.bytes)).getD 0
def aggT (P : Program) (t : TypeId) : Bool := match P.underlying t with
  | some (.struct _) | some (.array _ _) => true
  | _ => false
def offT (P : Program) (t : TypeId) (f : Nat) : Option Nat := match P.underlying t with
  | some (.struct fs) => match fs[f]? with
    | some x => if szT P x.type = 0 then none else some x.offset
    | none => none
  | _ => none
inductive TK where
  | str | slice (e : TypeId) | array (n : Nat) (e : TypeId) | ptr (e : TypeId) | int (k : IntKind) | bool | struct | map (k e : TypeId) | other
def kindT (P : Program) (t : TypeId) : TK := match P.underlying t with
  | some .string => .str
  | some (.slice e) => .slice e
  | some (.array n e) => .array n e
  | some (.pointer e) => .ptr e
  | some (.int k) => .int k
  | some .bool => .bool
  | some (.struct _) => .struct
  | some (.map k e) => .map k e
  | _ => .other
def elemK : TK → Option TypeId
  | .slice e => some e
  | _ => none
/-- A type's zero value, its nil slices knowing their elements' size. -/
def aggO (P : Program) (t : TypeId) : Option Bool := match P.underlying t with
  | some (.struct _) | some (.array _ _) => some true
  | some _ => some false
  | none => none
def zeroA (P : Program) : Nat → TypeId → AV
  | 0, _ => .undef
  | k + 1, t => match P.underlying t with
    | some (.struct fs) => .agg (fs.toList.flatMap fun f => cellsOf (zeroA P k f.type))
    | some (.array n e) => .agg ((List.replicate n (cellsOf (zeroA P k e))).flatten)
    | some (.slice e) => .olst (szT P e) []
    | _ => (((P.info? t).bind (·.zero)).map ofV1).getD .undef
def zfit : AV → Value → Bool
  | .olst _ [], .slice none 0 0 => true
  | .bool a, .bool b => a == b
  | .int k a, .int k' b => k == k' && a == b
  | .str a, .string b => a.size == 0 && b.size == 0
  | .nilp, .pointer none => true
  | .nilf, .nilFunc => true
  | .nili, .nilIface => true
  | .nilm, .map none => true
  | _, _ => false
def zfitL : List AV → List Value → Bool
  | [], [] => true
  | a :: r, v :: q => zfit a v && zfitL r q
  | _, _ => false
def zfitA : AV → Value → Bool
  | .agg cs, .agg vs => zfitL cs vs.toList
  | a, v => zfit a v
def zeroT (P : Program) (t : TypeId) : AV := match (P.info? t).bind (·.zero) with
  | some z => if zfitA (zeroA P 12 t) z then zeroA P 12 t else .undef
  | none => .undef
/-- nil, at a slice's type. -/
def nilT (P : Program) (t : TypeId) (v : AV) : AV := match v with
  | .olst 0 [] => match kindT P t with
    | .slice e => .olst (szT P e) []
    | _ => .olst 0 []
  | v => v

/-! ### Own memory written out, and taken in -/
mutual
def unf : AV → Mem → Nat → AV × Mem × Nat
  | .olst sz els, b, n => (.row n els.length 0 els.length, (n, .row sz els false) :: b, n + 1)
  | .optr e j, b, n => (.loc n j, (n, .obj e) :: b, n + 1)
  | .omp ks vs, b, n => (.mp n, (n, .map ks vs) :: b, n + 1)
  | .agg cs, b, n => (.agg (unfL cs b n).1, (unfL cs b n).2.1, (unfL cs b n).2.2)
  | .tup cs, b, n => (.tup (unfL cs b n).1, (unfL cs b n).2.1, (unfL cs b n).2.2)
  | .clo f cs, b, n => (.clo f (unfL cs b n).1, (unfL cs b n).2.1, (unfL cs b n).2.2)
  | v, b, n => (v, b, n)
def unfL : List AV → Mem → Nat → List AV × Mem × Nat
  | [], b, n => ([], b, n)
  | v :: r, b, n => ((unf v b n).1 :: (unfL r (unf v b n).2.1 (unf v b n).2.2).1, (unfL r (unf v b n).2.1 (unf v b n).2.2).2.1, (unfL r (unf v b n).2.1 (unf v b n).2.2).2.2)
end

mutual
/-- No handle is of number n or above it. -/
def Bd (n : Nat) : AV → Prop
  | .loc id _ => id < n
  | .elp id _ _ _ => id < n
  | .row id _ _ _ => id < n
  | .rowc id _ _ _ => id < n
  | .mp id => id < n
  | .fz cs => BdL n cs
  | .optr e _ => Bd n e
  | .lst _ _ els => BdL n els
  | .olst _ els => BdL n els
  | .agg cs => BdL n cs
  | .tup cs => BdL n cs
  | .clo _ cs => BdL n cs
  | .omp ks vs => BdL n ks ∧ BdL n vs
  | _ => True
def BdL (n : Nat) : List AV → Prop
  | [] => True
  | v :: r => Bd n v ∧ BdL n r
end
mutual
/-- No list in it is lent. -/
def NoF : AV → Prop
  | .fz _ => False
  | .optr e _ => NoF e
  | .lst fl _ els => fl = true ∧ NoFL els
  | .olst _ els => NoFL els
  | .agg cs => NoFL cs
  | .tup cs => NoFL cs
  | .clo _ cs => NoFL cs
  | .omp ks vs => NoFL ks ∧ NoFL vs
  | _ => True
def NoFL : List AV → Prop
  | [] => True
  | v :: r => NoF v ∧ NoFL r
end
mutual
/-- Nothing in it is owned. -/
def NoO : AV → Prop
  | .optr _ _ => False
  | .olst _ _ => False
  | .omp _ _ => False
  | .agg cs => NoOL cs
  | .tup cs => NoOL cs
  | .clo _ cs => NoOL cs
  | _ => True
def NoOL : List AV → Prop
  | [] => True
  | v :: r => NoO v ∧ NoOL r
end
mutual
/-- Every list in it as one that is lent. -/
def low : AV → AV
  | .fz cs => .fz (lowL cs)
  | .lst _ sz els => .lst false sz (lowL els)
  | .agg cs => .agg (lowL cs)
  | v => v
def lowL : List AV → List AV
  | [] => []
  | v :: r => low v :: lowL r
end

mutual
/-- A value with the own memory that it leads to, taken along; what must hold for it. -/
def fold : Nat → Mem → AV → Option (AV × Mem × Prop)
  | 0, _, _ => none
  | k + 1, b, .row id n off len => match look id b with
    | some (.row sz els true) => some (.lst true sz ((els.drop off).take len), b, n = els.length ∧ off + len ≤ n ∧ BdL 0 els)
    | some (.row sz els false) => some (.olst sz (els.take len), delB id b, n = els.length ∧ off = 0 ∧ len ≤ n ∧ BdL 0 els)
    | _ => none
  | k + 1, b, .loc id j => match look id b with
    | some (.obj e) => (foldL k (delB id b) (cellsOf e)).map fun r => (.optr (reCells e r.1) j, r.2.1, r.2.2)
    | _ => none
  | k + 1, b, .mp id => match look id b with
    | some (.map ks vs) => some (.omp ks vs, delB id b, BdL 0 ks ∧ BdL 0 vs)
    | _ => none
  | k + 1, b, .agg cs => (foldL k b cs).map fun r => (.agg r.1, r.2.1, r.2.2)
  | k + 1, b, .tup cs => (foldL k b cs).map fun r => (.tup r.1, r.2.1, r.2.2)
  | k + 1, b, .clo f cs => (foldL k b cs).map fun r => (.clo f r.1, r.2.1, r.2.2)
  | _ + 1, b, v => some (v, b, Bd 0 v)
def foldL : Nat → Mem → List AV → Option (List AV × Mem × Prop)
  | 0, _, _ => none
  | _ + 1, b, [] => some ([], b, True)
  | k + 1, b, v :: r => (fold k b v).bind fun x => (foldL k x.2.1 r).map fun y => (x.1 :: y.1, y.2.1, x.2.2 ∧ y.2.2)
end

def opnd (s : S) : Operand → Option AV
  | .tmp t => look t s.t
  | .const v => some (ofV v)
  | .func f => some (.clo f [])
  | .global _ => none
def opnds (s : S) : List Operand → Option (List AV)
  | [] => some []
  | x :: r => (opnd s x).bind fun v => (opnds s r).map fun vs => v :: vs

/-- What an operation comes to: what it makes; what it asks for; what it may be told; a call; anything of some whole numbers. -/
inductive Out where
  | ok (s : S) (v : AV)
  | need (p : Prop) (o : Out)
  | hyp (p : Prop) (o : Out)
  | call (s : S) (g : FuncId) (args : List AV)
  | fail

def okO {α : Type} (o : Option α) (K : α → Out) : Out := match o with
  | some v => K v
  | none => .fail
theorem okO_some {α : Type} (v : α) (K : α → Out) : okO (some v) K = K v := rfl
theorem okO_none {α : Type} (K : α → Out) : okO none K = .fail := rfl
/-- An element that must be there. -/
def getO (l : List AV) (i : Nat) (K : AV → Out) : Out := okO l[i]? K
theorem getO_of {l : List AV} {i : Nat} {v : AV} (h : l[i]? = some v) (K : AV → Out) : getO l i K = K v := by unfold getO okO; rw [h]

def getRow : Blk → Option (Nat × List AV × Bool)
  | .row sz els fr => some (sz, els, fr)
  | _ => none
def getMap : Blk → Option (List AV × List AV)
  | .map ks vs => some (ks, vs)
  | _ => none
def getObj : Blk → Option AV
  | .obj e => some e
  | _ => none
def rowAt (b : Mem) (id : Nat) : Option (Nat × List AV × Bool) := (look id b).bind getRow
/-- A row that may be written. -/
def ownAt (b : Mem) (id : Nat) : Option (Nat × List AV) := (rowAt b id).bind fun r => if r.2.2 then none else some (r.1, r.2.1)

def loadK (s : S) (agg : Bool) (mk : List AV → Blk) (id : Nat) (e : AV) (j : Nat) (cs : List AV) (n' : Nat) (r : List AV × Mem × Nat) : Out :=
  if n' = s.n then .ok s (ofCells agg cs) else .ok { s with b := (id, mk (putAt (cellsOf e) j r.1)) :: r.2.1, n := r.2.2 } (ofCells agg r.1)
def loadE (s : S) (agg : Bool) (n : Nat) (mk : List AV → Blk) (id : Nat) (e : AV) (j : Nat) : Out :=
  .need (0 < n ∧ j + n ≤ (cellsOf e).length) (loadK s agg mk id e j (((cellsOf e).drop j).take n) (unfL (((cellsOf e).drop j).take n) s.b s.n).2.2 (unfL (((cellsOf e).drop j).take n) (delB id s.b) s.n))
def loadO (s : S) (agg : Bool) (n : Nat) (p : AV) : Out := match p with
  | .fz cs => .need (0 < n ∧ n ≤ cs.length) (.ok s (ofCells agg (cs.take n)))
  | .loc id j => okO ((look id s.b).bind getObj) fun e => loadE s agg n (fun cs => .obj (reCells e cs)) id e j
  | .elp id m i j => okO (rowAt s.b id) fun r => .need (m = r.2.1.length) (getO r.2.1 i fun e =>
      loadE s agg n (fun cs => .row r.1 (r.2.1.set i (reCells e cs)) r.2.2) id e j)
  | _ => .fail

def storeO (s : S) (n : Nat) (p v : AV) : Out := match p with
  | .loc id j => okO ((look id s.b).bind getObj) fun e => .need ((cellsOf v).length = n ∧ j + n ≤ (cellsOf e).length ∧ allC1 (cellsOf v) = true)
      (.ok { s with b := setB id (.obj (reCells e (putAt (cellsOf e) j (cellsOf v)))) s.b } .undef)
  | .elp id m i j => okO (ownAt s.b id) fun r => .need (m = r.2.length) (getO r.2 i fun e => .need ((cellsOf v).length = n ∧ j + n ≤ (cellsOf e).length ∧ allC1 (cellsOf v) = true)
      (.ok { s with b := setB id (.row r.1 (r.2.set i (reCells e (putAt (cellsOf e) j (cellsOf v)))) false) s.b } .undef))
  | _ => .fail

/-- What a slice holds, and of how many cells its elements are. -/
def elsO (b : Mem) (v : AV) (K : Nat → List AV → Out) : Out := match v with
  | .lst _ sz els => K sz els
  | .row id n off len => okO (rowAt b id) fun r => .need (n = r.2.1.length ∧ off + len ≤ n ∧ NoOL ((r.2.1.drop off).take len)) (K r.1 ((r.2.1.drop off).take len))
  | .rowc id n off len => okO (rowAt b id) fun r => .need (n = r.2.1.length ∧ off + len ≤ n ∧ NoOL ((r.2.1.drop off).take len)) (K r.1 ((r.2.1.drop off).take len))
  | _ => .fail
/-- An element type whose zero value is known. -/
def zok (P : Program) (e : TypeId) : Bool := match P.info? e with
  | some i => match i.zero with
    | some z => z.cells.size == i.size && decide (0 < i.size)
    | none => false
  | none => false

/-- The leaves of a type that is held by ==. -/
inductive LK where
  | bool | int (k : IntKind) | str
def leavesF (P : Program) (g : TypeId → Option (List LK)) : List Field → Nat → Option (List LK)
  | [], _ => some []
  | f :: r, off => if f.name = "_" ∨ f.offset ≠ off then none else (g f.type).bind fun a => if szT P f.type = a.length then (leavesF P g r (off + a.length)).map fun b => a ++ b else none
def leaves (P : Program) : Nat → TypeId → Option (List LK)
  | 0, _ => none
  | k + 1, t => match P.underlying t with
    | some .bool => some [.bool]
    | some (.int k) => some [.int k]
    | some .string => some [.str]
    | some (.struct fs) => if P.stoodInHeld t then none else leavesF P (leaves P k) fs.toList 0
    | _ => none
def leavesT (P : Program) (t : TypeId) : Option (List LK) := if P.eqGuardType P.depth t || !aggT P t then none else leaves P 12 t
def eqK : LK → AV → AV → Option Bool
  | .bool, .bool a, .bool b => some (a == b)
  | .int k, .int k1 a, .int k2 b => if k1 = k2 then some (a == b) else none
  | .str, .str a, .str b => some (a.toList == b.toList)
  | _, _, _ => none
def eqLK : List LK → List AV → List AV → Option Bool
  | [], [], [] => some true
  | k :: l, a :: r, b :: q => (eqK k a b).bind fun x => (eqLK l r q).map fun y => (x && y)
  | _, _, _ => none
def boolT (P : Program) (t : TypeId) : Bool := match P.underlying t with
  | some .bool => true
  | _ => false
def ptrT (P : Program) (t : TypeId) : Bool := match P.underlying t with
  | some (.pointer _) => true
  | _ => false

def binO (P : Program) (t : TypeId) (s : S) (op : BinOp) (x y : AV) : Out := match op, x, y with
  | .add, .int k a, .int k' b => .need (k = k') (.ok s (.int k (k.wrap (a + b))))
  | .sub, .int k a, .int k' b => .need (k = k') (.ok s (.int k (k.wrap (a - b))))
  | .mul, .int k a, .int k' b => .need (k = k') (.ok s (.int k (k.wrap (a * b))))
  | .quo, .int k a, .int k' b => .need (k = k' ∧ b ≠ 0) (.ok s (.int k (k.wrap (a.tdiv b))))
  | .rem, .int k a, .int k' b => .need (k = k' ∧ b ≠ 0) (.ok s (.int k (a.tmod b)))
  | .lss, .int k a, .int k' b => .need (k = k') (.ok s (.bool (a < b)))
  | .leq, .int k a, .int k' b => .need (k = k') (.ok s (.bool (a ≤ b)))
  | .gtr, .int k a, .int k' b => .need (k = k') (.ok s (.bool (a > b)))
  | .geq, .int k a, .int k' b => .need (k = k') (.ok s (.bool (a ≥ b)))
  | .shl, .int k a, .int _ b => .need (0 ≤ b) (.ok s (.int k (k.wrap (a * 2 ^ (min b.toNat k.bits)))))
  | .shr, .int k a, .int _ b => .need (0 ≤ b) (.ok s (.int k (a.fdiv (2 ^ (min b.toNat k.bits)))))
  | .and, .int k a, .int k' b => .need (k = k') (.ok s (.int k (k.wrap ((BitVec.ofInt k.bits a) &&& (BitVec.ofInt k.bits b)).toNat)))
  | .or, .int k a, .int k' b => .need (k = k') (.ok s (.int k (k.wrap ((BitVec.ofInt k.bits a) ||| (BitVec.ofInt k.bits b)).toNat)))
  | .add, .str a, .str b => .need (a.size + b.size ≤ 140737488355328) (.ok s (.str (a ++ b)))
  | .lss, .str a, .str b => .ok s (.bool (Op.bytesLess a.toList b.toList))
  | .gtr, .str a, .str b => .ok s (.bool (!(Op.bytesLess a.toList b.toList || a.toList == b.toList)))
  | .leq, .str a, .str b => .ok s (.bool (Op.bytesLess a.toList b.toList || a.toList == b.toList))
  | .geq, .str a, .str b => .ok s (.bool (!Op.bytesLess a.toList b.toList))
  | .eql, .int k a, .int k' b => .need (k = k') (.ok s (.bool (a == b)))
  | .neq, .int k a, .int k' b => .need (k = k') (.ok s (.bool (a != b)))
  | .eql, .str a, .str b => .ok s (.bool (a.toList == b.toList))
  | .neq, .str a, .str b => .ok s (.bool (!(a.toList == b.toList)))
  | .eql, .bool a, .bool b => .need (boolT P t = true) (.ok s (.bool (a == b)))
  | .neq, .bool a, .bool b => .need (boolT P t = true) (.ok s (.bool (!(a == b))))
  | .eql, .nilp, .nilp => .need (ptrT P t = true) (.ok s (.bool true))
  | .neq, .nilp, .nilp => .need (ptrT P t = true) (.ok s (.bool false))
  | .eql, .loc _ _, .nilp => .need (ptrT P t = true) (.ok s (.bool false))
  | .neq, .loc _ _, .nilp => .need (ptrT P t = true) (.ok s (.bool true))
  | .eql, .agg a, .agg b => okO (leavesT P t) fun lk => okO (eqLK lk a b) fun c => .ok s (.bool c)
  | .neq, .agg a, .agg b => okO (leavesT P t) fun lk => okO (eqLK lk a b) fun c => .ok s (.bool (!c))
  | _, _, _ => .fail

def unO (s : S) (op : UnOp) (x : AV) : Out := match op, x with
  | .not, .bool b => .ok s (.bool (!b))
  | .neg, .int k n => .ok s (.int k (k.wrap (0 - n)))
  | _, _ => .fail

def convO (P : Program) (s : S) (src dst : TypeId) (x : AV) : Out := match kindT P src, kindT P dst, x with
  | .int _, .int k, .int _ n => .ok s (.int k (k.wrap n))
  | .str, .str, .str a => .ok s (.str a)
  | _, _, _ => .fail

def indexAddrO (s : S) (esz : Nat) (x i : AV) : Out := match x, i with
  | .row id n off len, .int _ i => okO (rowAt s.b id) fun r => .need (n = r.2.1.length ∧ off + len ≤ n ∧ r.1 = esz ∧ 0 < esz ∧ 0 ≤ i ∧ i < len) (.ok s (.elp id n (off + i.toNat) 0))
  | .rowc id n off len, .int _ i => okO (rowAt s.b id) fun r => .need (n = r.2.1.length ∧ off + len ≤ n ∧ r.1 = esz ∧ 0 < esz ∧ 0 ≤ i ∧ i < len) (.ok s (.elp id n (off + i.toNat) 0))
  | .lst _ sz els, .int _ i => .need (sz = esz ∧ 0 < esz ∧ 0 ≤ i ∧ i < els.length) (getO els i.toNat fun e => .ok s (.fz (cellsOf e)))
  | _, _ => .fail
def indexArrO (s : S) (n esz : Nat) (x i : AV) : Out := match x, i with
  | .loc id j, .int _ i => .need (1 < n ∧ 0 ≤ i ∧ i < n ∧ 0 < esz) (.ok s (.loc id (j + i.toNat * esz)))
  | _, _ => .fail
def idxAddrO (P : Program) (s : S) (t : TypeId) (x i : AV) : Out := match kindT P t with
  | .slice e => indexAddrO s (szT P e) x i
  | .array n e => indexArrO s n (szT P e) x i
  | _ => .fail
def indexO (s : S) (k : TK) (x i : AV) : Out := match k, x, i with
  | .str, .str a, .int _ i => .need (0 ≤ i ∧ i < a.size) (.ok s (.int .u8 ((a.data.toList.getD i.toNat 0).toNat : Int)))
  | _, _, _ => .fail

def fieldAddrO (s : S) (o : Option Nat) (x : AV) : Out := match x, o with
  | .loc id j, some o => .ok s (.loc id (j + o))
  | .elp id n i j, some o => .ok s (.elp id n i (j + o))
  | .fz cs, some o => .need (o < cs.length) (.ok s (.fz (cs.drop o)))
  | _, _ => .fail

/-- A bound of a cut. -/
def bnd (s : S) (x : Option Operand) (d : Nat) : Option Int := match x with
  | none => some d
  | some x => match opnd s x with
    | some (.int _ i) => some i
    | _ => none
def sliceO (P : Program) (s : S) (k : TK) (x : AV) (lo hi mx : Option Operand) : Out := match k, x with
  | .str, .str a => okO (bnd s lo 0) fun l => okO (bnd s hi a.size) fun h => .need (mx.isNone = true ∧ 0 ≤ l ∧ l ≤ h ∧ h ≤ a.size) (.ok s (.str (a.extract l.toNat h.toNat)))
  | .slice e, .lst fl sz els => okO (bnd s lo 0) fun l => okO (bnd s hi els.length) fun h => .need (mx.isNone = true ∧ sz = szT P e ∧ 0 < sz ∧ 0 ≤ l ∧ l ≤ h ∧ h ≤ els.length)
      (.ok s (.lst fl sz ((els.drop l.toNat).take (h.toNat - l.toNat))))
  | .slice e, .row id n off len => okO (rowAt s.b id) fun r => okO (bnd s lo 0) fun l => okO (bnd s hi len) fun h => okO (bnd s mx 0) fun m =>
      .need (n = r.2.1.length ∧ off + len ≤ n ∧ r.1 = szT P e ∧ 0 < r.1 ∧ 0 ≤ l ∧ l ≤ h ∧ off + h ≤ n ∧ (mx.isNone = true ∨ m = h ∧ hi.isSome = true))
      (.ok s (if mx.isNone then .row id n (off + l.toNat) (h.toNat - l.toNat) else .rowc id n (off + l.toNat) (h.toNat - l.toNat)))
  | _, _ => .fail

def lenO (s : S) (k : TK) (x : AV) : Out := match k, x with
  | .str, .str a => .hyp (a.size ≤ 140737488355328) (.ok s (.int .i64 a.size))
  | .slice _, .lst _ _ els => .hyp (els.length ≤ 140737488355328) (.ok s (.int .i64 els.length))
  | .slice _, .olst _ els => .need (els = []) (.ok s (.int .i64 0))
  | .slice _, .row id n off len => okO (rowAt s.b id) fun r => .need (n = r.2.1.length ∧ off + len ≤ n) (.hyp (len ≤ 140737488355328) (.ok s (.int .i64 len)))
  | .slice _, .rowc id n off len => okO (rowAt s.b id) fun r => .need (n = r.2.1.length ∧ off + len ≤ n) (.hyp (len ≤ 140737488355328) (.ok s (.int .i64 len)))
  | _, _ => .fail

/-- What goes into a list: rows of this activation in it are read out (their blocks are written no more). -/
def frz1 (b : Mem) : AV → AV × Mem × Prop
  | .row id n off len => match look id b with
    | some (.row sz els _) => (.lst true sz ((els.drop off).take len), setB id (.row sz els true) b, n = els.length ∧ off + len ≤ n ∧ 0 < sz ∧ BdL 0 els ∧ NoOL els)
    | _ => (.undef, b, False)
  | v => (v, b, True)
def frzC (b : Mem) : List AV → List AV × Mem × Prop
  | [] => ([], b, True)
  | v :: r => ((frz1 b v).1 :: (frzC (frz1 b v).2.1 r).1, (frzC (frz1 b v).2.1 r).2.1, (frz1 b v).2.2 ∧ (frzC (frz1 b v).2.1 r).2.2)
def frzV (b : Mem) : AV → AV × Mem × Prop
  | .agg cs => (.agg (frzC b cs).1, (frzC b cs).2.1, (frzC b cs).2.2)
  | v => frz1 b v
def frzL (b : Mem) : List AV → List AV × Mem × Prop
  | [] => ([], b, True)
  | v :: r => ((frzV b v).1 :: (frzL (frzV b v).2.1 r).1, (frzL (frzV b v).2.1 r).2.1, (frzV b v).2.2 ∧ (frzL (frzV b v).2.1 r).2.2)

def appK (s : S) (id sz by_ : Nat) (xsz : Nat) (xs : List AV) (bsz : Nat) (els : List AV) : Out :=
  .need (bsz = sz ∧ xsz = sz ∧ (els.length + xs.length) * by_ ≤ 140737488355328 ∧ els.length + xs.length ≤ 140737488355328)
    (.ok { s with b := setB id (.row sz (els ++ xs) false) s.b } (.row id (els.length + xs.length) 0 (els.length + xs.length)))
/-- append(x, y...): behind all of a row; or to a part that has no room. -/
def appendO (s : S) (zk : Bool) (sz by_ : Nat) (x y : AV) : Out := match x with
  | .row id n off len => elsO s.b y fun xsz xs => okO (ownAt s.b id) fun r => .need (zk = true ∧ n = r.2.length ∧ off = 0 ∧ len = n) (appK s id sz by_ xsz xs r.1 r.2)
  | .rowc id n off len => elsO s.b x fun wsz ws => elsO s.b y fun xsz xs => .need (zk = true ∧ xs ≠ [] ∧ wsz = sz ∧ xsz = sz ∧
      (ws.length + xs.length) * by_ ≤ 140737488355328 ∧ ws.length + xs.length ≤ 140737488355328)
      (.ok { s with b := (s.n, .row sz (ws ++ xs) false) :: s.b, n := s.n + 1 } (.row s.n (ws.length + xs.length) 0 (ws.length + xs.length)))
  | _ => .fail

mutual
/-- An argument as the callee sees it, who only reads it; where it stands; what must hold. -/
def lend : Nat → Mem → AV → Option (AV × List Nat × Prop)
  | 0, _, _ => none
  | _ + 1, b, .row id n off len => (rowAt b id).map fun r => (.lst false r.1 (lowL ((r.2.1.drop off).take len)), [id], n = r.2.1.length ∧ off + len ≤ n ∧ BdL 0 r.2.1 ∧ NoOL ((r.2.1.drop off).take len))
  | _ + 1, b, .rowc id n off len => (rowAt b id).map fun r => (.lst false r.1 (lowL ((r.2.1.drop off).take len)), [id], n = r.2.1.length ∧ off + len ≤ n ∧ BdL 0 r.2.1 ∧ NoOL ((r.2.1.drop off).take len))
  | k + 1, b, .loc id j => ((look id b).bind getObj).bind fun e => (lendL k b ((cellsOf e).drop j)).map fun r => (.fz r.1, id :: r.2.1, r.2.2)
  | _ + 1, _, .olst sz els => some (.lst false sz (lowL els), els.map fun _ => 0, BdL 0 els ∧ NoOL els)
  | k + 1, b, .optr e j => (lendL k b ((cellsOf e).drop j)).map fun r => (.fz r.1, 0 :: r.2.1, r.2.2)
  | k + 1, b, .agg cs => (lendL k b cs).map fun r => (.agg r.1, r.2.1, r.2.2)
  | k + 1, b, .clo f cs => (lendL k b cs).map fun r => (.clo f r.1, r.2.1, r.2.2)
  | _ + 1, _, v => some (v, [], Bd 0 v ∧ NoO v)
def lendL : Nat → Mem → List AV → Option (List AV × List Nat × Prop)
  | 0, _, _ => none
  | _ + 1, _, [] => some ([], [], True)
  | k + 1, b, v :: r => (lend k b v).bind fun x => (lendL k b r).map fun y => (x.1 :: y.1, x.2.1 ++ y.2.1, x.2.2 ∧ y.2.2)
end
/-- The arguments that are handed over for good: with what they own. -/
def giveL : List Bool → Mem → List AV → Option (List AV × Mem × Prop)
  | _, b, [] => some ([], b, True)
  | true :: g, b, v :: r => (fold 30 b v).bind fun x => (giveL g x.2.1 r).map fun y => (x.1 :: y.1, y.2.1, x.2.2 ∧ y.2.2)
  | false :: g, b, v :: r => (giveL g b r).map fun y => (v :: y.1, y.2.1, y.2.2)
  | [], b, v :: r => (giveL [] b r).map fun y => (v :: y.1, y.2.1, y.2.2)
/-- The others. -/
def lendA : List Bool → Mem → List AV → Option (List AV × List Nat × Prop)
  | _, _, [] => some ([], [], True)
  | true :: g, b, v :: r => (lendA g b r).map fun y => (v :: y.1, y.2.1, y.2.2)
  | false :: g, b, v :: r => (lend 30 b v).bind fun x => (lendA g b r).map fun y => (x.1 :: y.1, x.2.1 ++ y.2.1, x.2.2 ∧ y.2.2)
  | [], b, v :: r => (lend 30 b v).bind fun x => (lendA [] b r).map fun y => (x.1 :: y.1, x.2.1 ++ y.2.1, x.2.2 ∧ y.2.2)

/-- What comes back: the callee's pointers hold what it left there. -/
def back1 (b : Mem) : AV → AV → Mem
  | .loc id j, .optr e j' => if j = j' then (id, .obj e) :: b else b
  | _, _ => b
def backC (b : Mem) : List AV → List AV → Mem
  | v :: r, o :: q => backC (back1 b v o) r q
  | _, _ => b
def back (b : Mem) : AV → AV → Mem
  | .clo _ cs, .clo _ os => backC b cs os
  | v, o => back1 b v o
def backG : List Bool → Mem → List AV → List AV → Mem
  | true :: g, b, v :: r, o :: q => backG g (back b v o) r q
  | false :: g, b, _ :: r, _ :: q => backG g b r q
  | _, b, _, _ => b
def noFG : List Bool → List AV → Prop
  | true :: g, o :: q => NoF o ∧ noFG g q
  | false :: g, _ :: q => noFG g q
  | _, _ => True

def callO (s : S) (f : AV) (args : List AV) : Out := match f with
  | .clo g caps => .call s g (args ++ caps)
  | _ => .fail
def putN (s : S) (r : AV × Mem × Nat) : S := { s with b := r.2.1, n := r.2.2 }
def moveO (s : S) (v : AV) (r : AV × Mem × Nat) : Out := if r.2.2 = s.n then .ok s v else .ok (putN s r) r.1
def boxO (s : S) (v : AV) : Out := .need (allC1 (cellsOf v) = true) (.ok { s with b := (s.n, .obj v) :: s.b, n := s.n + 1 } (.loc s.n 0))
def pickO (s : S) (c a b : AV) : Out := match c, a, b with
  | .bool x, .bool y, .bool z => .ok s (.bool (if x = true then y else z))
  | .bool x, y, z => .ok s (if x = true then y else z)
  | _, _, _ => .fail
def boolOf : AV → Option Bool
  | .bool b => some b
  | _ => none
def tupOf : AV → Option (List AV)
  | .tup vs => some vs
  | _ => none
def aggOf : AV → Option (List AV)
  | .agg vs => some vs
  | _ => none
def nilCheckO (s : S) (v : AV) : Out := match v with
  | .loc id j => .ok s (.loc id j)
  | .elp id n i j => .ok s (.elp id n i j)
  | .fz cs => .ok s (.fz cs)
  | .clo f cs => .ok s (.clo f cs)
  | _ => .fail
def buildSliceO (s : S) (zk : Bool) (sz n : Nat) (ix : List Nat) (r : List AV × Mem × Prop) : Out :=
  .need (zk = true ∧ n = r.1.length ∧ ix = List.range n ∧ n * sz ≤ 16777216 ∧ n ≤ 140737488355328 ∧ r.2.2 ∧ ∀ v ∈ r.1, okE sz v) (.ok { s with b := (s.n, .row sz r.1 false) :: r.2.1, n := s.n + 1 } (.row s.n r.1.length 0 r.1.length))
/-- All fields of a struct have types that are known. -/
def fieldsOk (P : Program) (t : TypeId) : Bool := match P.underlying t with
  | some (.struct fs) => fs.toList.all fun f => (P.info? f.type).isSome
  | _ => false
def fszT (P : Program) (t : TypeId) (f : Nat) : Nat := match P.underlying t with
  | some (.struct fs) => match fs[f]? with
    | some x => szT P x.type
    | none => 0
  | _ => 0
/-- The fields of a struct that is built: the cells of the zero value, those that are named written over. -/
def fillA (P : Program) (t : TypeId) : List (Nat × AV) → List AV → Option (List AV)
  | [], cs => some cs
  | (f, v) :: r, cs => (offT P t f).bind fun o => if fszT P t f = (cellsOf v).length ∧ o + (cellsOf v).length ≤ cs.length ∧ allC1 (cellsOf v) = true then fillA P t r (putAt cs o (cellsOf v)) else none
def minmaxO (s : S) (mx : Bool) (a b : AV) : Out := match a, b with
  | .int k x, .int _ y => .ok s (.int k (if mx then (if y > x then y else x) else (if y < x then y else x)))
  | _, _ => .fail
def one1 : List TypeId → Option TypeId
  | [t] => some t
  | _ => none
def two2 : List TypeId → Option TypeId
  | [t, u] => if t = u then some t else none
  | _ => none
def builtinO (P : Program) (b : Builtin) (ts : Array TypeId) (s : S) (args : List AV) : Out := match b, args with
  | .len, [x] => okO (one1 ts.toList) fun t => lenO s (kindT P t) x
  | .append, [x, y] => okO (two2 ts.toList) fun t => okO (elemK (kindT P t)) fun e => appendO s (zok P e) (szT P e) (byT P e) x y
  | .min, [x, y] => minmaxO s false x y
  | .max, [x, y] => minmaxO s true x y
  | _, _ => .fail

def fieldsOf (s : S) : List (Nat × Operand) → Option (List (Nat × AV))
  | [] => some []
  | x :: r => (opnd s x.2).bind fun v => (fieldsOf s r).map fun q => (x.1, v) :: q

def opndsT (P : Program) (s : S) : List Operand → List TypeId → Option (List AV)
  | [], _ => some []
  | x :: r, t :: q => (opnd s x).bind fun v => (opndsT P s r q).map fun vs => nilT P t v :: vs
  | x :: r, [] => (opnd s x).bind fun v => (opndsT P s r []).map fun vs => v :: vs

/-! ### Maps whose keys are held by == alone -/
def keyK : TK → Option LK
  | .str => some .str
  | .int k => some (.int k)
  | .bool => some .bool
  | _ => none
def mapK : TK → Option (TypeId × TypeId)
  | .map k e => some (k, e)
  | _ => none
def intOf : AV → Option Int
  | .int _ n => some n
  | _ => none
def findM (lk : LK) (k : AV) : List AV → List AV → Option (Option AV)
  | [], _ => some none
  | a :: r, v :: q => (eqK lk k a).bind fun x => if x = true then some (some v) else findM lk k r q
  | _ :: _, [] => none
def setM (lk : LK) (k v : AV) : List AV → List AV → Option (List AV × List AV)
  | [], _ => some ([k], [v])
  | a :: r, u :: q => (eqK lk k a).bind fun x => if x = true then some (k :: r, v :: q) else (setM lk k v r q).map fun p => (a :: p.1, u :: p.2)
  | _ :: _, [] => none
def mapSetO (s : S) (m k v : AV) (lk : LK) : Out := match m with
  | .mp id => okO ((look id s.b).bind getMap) fun r => okO (setM lk k v r.1 r.2) fun q => .ok { s with b := setB id (.map q.1 q.2) s.b } .undef
  | _ => .fail
def mapOf (b : Mem) : AV → Option (List AV × List AV)
  | .mp id => (look id b).bind getMap
  | .nilm => some ([], [])
  | _ => none
def lookK (s : S) (commaOk : Bool) (z : AV) (r : Option AV) : Out :=
  if commaOk = true then .ok s (.tup [r.getD z, .bool r.isSome]) else .ok s (r.getD z)
/-- make, from an operand that says how many. -/
def makeMapO (s : S) : Out := .ok { s with b := (s.n, .map [] []) :: s.b, n := s.n + 1 } (.mp s.n)

def opO (P : Program) (s : S) (ty : TypeId) (o : Op) : Out := match o with
  | .move x => okO (opnd s x) fun v => moveO s (nilT P ty v) (unf (nilT P ty v) s.b s.n)
  | .assign x => okO (opnd s x) fun v => moveO s (nilT P ty v) (unf (nilT P ty v) s.b s.n)
  | .pick c a b => okO (opnd s c) fun vc => okO (opnd s a) fun va => okO (opnd s b) fun vb => pickO s vc va vb
  | .alloc e => boxO s (zeroT P e)
  | .box _ x => okO (opnd s x) fun v => boxO s v
  | .build t parts => okO (fieldsOf s parts.toList) fun fs => okO (aggOf (zeroT P t)) fun z => okO (fillA P t fs z) fun cs => .need (fieldsOk P t = true) (moveO s (.agg cs) (unf (.agg cs) s.b s.n))
  | .load t p => okO (opnd s p) fun p => okO (aggO P t) fun ag => loadO s ag (szT P t) p
  | .store t p x => okO (opnd s p) fun p => okO (opnd s x) fun v => .need (0 < szT P t) (storeO s (szT P t) p (nilT P t v))
  | .nilCheck x => okO (opnd s x) fun v => nilCheckO s v
  | .binOp op t x y _ => okO (opnd s x) fun a => okO (opnd s y) fun b => binO P t s op a b
  | .unOp op _ x => okO (opnd s x) fun a => unO s op a
  | .convert src dst x => okO (opnd s x) fun a => convO P s src dst a
  | .makeFunc (.func f) first caps => okO (opnds s caps.toList) fun vs => .need (first.toList = []) (.ok s (.clo f vs))
  | .fieldAddr t x f => okO (opnd s x) fun a => fieldAddrO s (offT P t f) a
  | .field t x f => okO (opnd s x) fun a => .fail
  | .indexAddr t x i => okO (opnd s x) fun a => okO (opnd s i) fun i => idxAddrO P s t a i
  | .index t x i => okO (opnd s x) fun a => okO (opnd s i) fun i => indexO s (kindT P t) a i
  | .slice t x lo hi mx => okO (opnd s x) fun a => sliceO P s (kindT P t) a lo hi mx
  | .extract x i => okO (opnd s x) fun a => okO (tupOf a) fun vs => getO vs i fun v => .ok s v
  | .buildSlice t n parts => okO (fieldsOf s parts.toList) fun fs => okO (elemK (kindT P t)) fun e => buildSliceO s (zok P e) (szT P e) n (fs.map (·.1)) (frzL s.b (fs.map (·.2)))
  | .makeMap t (some x) => okO (mapK (kindT P t)) fun _ => okO (opnd s x) fun v => okO (intOf v) fun _ => makeMapO s
  | .makeMap _ none => makeMapO s
  | .mapUpdate t m k x => okO (opnd s m) fun m => okO (opnd s k) fun k => okO (opnd s x) fun v => okO (mapK (kindT P t)) fun kk => okO (keyK (kindT P kk.1)) fun lk => mapSetO s m k (nilT P kk.2 v) lk
  | .lookup t m k ok => okO (opnd s m) fun m => okO (opnd s k) fun k => okO (mapOf s.b m) fun r => okO (mapK (kindT P t)) fun kk => okO (keyK (kindT P kk.1)) fun lk => okO (findM lk k r.1 r.2) fun v => .need (C1 (zeroT P kk.2) = true ∧ NoO (zeroT P kk.2)) (lookK s ok (zeroT P kk.2) v)
  | .call { callee := .builtin b, args, argTypes } => okO (opnds s args.toList) fun vs => builtinO P b argTypes s vs
  | .call { callee := .value f, args, argTypes } => okO (opnd s f) fun f => okO (opndsT P s args.toList argTypes.toList) fun vs => callO s f vs
  | _ => .fail

variable (Sp : FuncId → List AV → AV → List AV → Prop)

def okP {α : Type} (o : Option α) (K : α → Prop) : Prop := match o with
  | some v => K v
  | none => False
theorem okP_some {α : Type} (v : α) (K : α → Prop) : okP (some v) K = K v := rfl
theorem okP_of {α : Type} {o : Option α} {K : α → Prop} (h : okP o K) : ∃ v, o = some v ∧ K v := by
  cases o with
  | none => exact h.elim
  | some v => exact ⟨v, rfl, h⟩

/-- A call behind the choice of what is handed over. -/
def callW (s : S) (g : FuncId) (args : List AV) (gm : List Bool) (K : S → AV → Prop) : Prop :=
  okP (giveL gm s.b args) fun x => okP (lendA gm x.2.1 x.1) fun y => x.2.2 ∧ y.2.2 ∧ ∃ res outs, Sp g y.1 res outs ∧ (y.2.1 = [] ∨ NoF res ∧ noFG gm outs) ∧
    K (putN s (unf res (backG gm x.2.1 args outs) s.n)) (unf res (backG gm x.2.1 args outs) s.n).1

/-- What is asked of an outcome. -/
def outW : Out → (S → AV → Prop) → Prop
  | .ok s v, K => K s v
  | .need p o, K => p ∧ outW o K
  | .hyp p o, K => p → outW o K
  | .call s g args, K => ∃ gm, callW Sp s g args gm K
  | .fail, _ => False

def bw : Bool → Bool → Bool
  | true, w => w
  | false, w => !w
def guardOf (w : Bool) : AV → Option Bool
  | .bool b => some (bw b w)
  | .tup [] => some false
  | _ => none
def guardO (all : List Oper) (s : S) (i : Nat) (w : Bool) : Option Bool := (((all[i]?).bind (·.dst)).bind fun d => look d s.t).bind (guardOf w)

/-- The operations of a region, in the order of the text. `all`: the whole region (a guard names an operation by its place). -/
def opsW (P : Program) (all : List Oper) : List Oper → S → (S → Prop) → Prop
  | [], s, K => K s
  | o :: r, s, K => match o.guard with
    | none => outW Sp (opO P s o.type o.op) fun s' v => opsW P all r (s'.put o.dst v) K
    | some g => ∃ b, guardO all s g.1 g.2 = some b ∧
      (b = true → outW Sp (opO P s o.type o.op) fun s' v => opsW P all r (s'.put o.dst v) K) ∧ (b = false → opsW P all r (s.put o.dst (.tup [])) K)

/-- Two numbers for each other. -/
def sw (i j k : Nat) : Nat := if k = i then j else if k = j then i else k
mutual
def ren (i j : Nat) : AV → AV
  | .loc id k => .loc (sw i j id) k
  | .elp id n k l => .elp (sw i j id) n k l
  | .row id n o l => .row (sw i j id) n o l
  | .rowc id n o l => .rowc (sw i j id) n o l
  | .mp id => .mp (sw i j id)
  | .fz cs => .fz (renL i j cs)
  | .optr e k => .optr (ren i j e) k
  | .lst fl sz els => .lst fl sz (renL i j els)
  | .olst sz els => .olst sz (renL i j els)
  | .agg cs => .agg (renL i j cs)
  | .tup cs => .tup (renL i j cs)
  | .clo f cs => .clo f (renL i j cs)
  | .omp ks vs => .omp (renL i j ks) (renL i j vs)
  | v => v
def renL (i j : Nat) : List AV → List AV
  | [] => []
  | v :: r => ren i j v :: renL i j r
end
def renB (i j : Nat) : Blk → Blk
  | .obj e => .obj (ren i j e)
  | .row sz els fr => .row sz (renL i j els) fr
  | .map ks vs => .map (renL i j ks) (renL i j vs)
def renT (i j : Nat) : List (Nat × AV) → List (Nat × AV)
  | [] => []
  | (k, v) :: r => (k, ren i j v) :: renT i j r
def renM (i j : Nat) : Mem → Mem
  | [] => []
  | (k, v) :: r => (sw i j k, renB i j v) :: renM i j r
def swapS (i j : Nat) (s : S) : S := { s with t := renT i j s.t, b := renM i j s.b }

/-- What may be forgotten, and named otherwise, at the head of a loop. -/
inductive Weak (n0 : Nat) : S → S → Prop where
  | drop {s s' : S} (hm : s'.m = s.m) (ht : ∀ k v, look k s'.t = some v → look k s.t = some v) (hb : s'.b.Sublist s.b) (hn : s.n ≤ s'.n) : Weak n0 s s'
  | perm {s : S} {b : Mem} (hb : b.Perm s.b) : Weak n0 s { s with b := b }
  | swap {s : S} (i j : Nat) (hi : n0 ≤ i) (hj : n0 ≤ j) (hi' : i < s.n) (hj' : j < s.n) : Weak n0 s (swapS i j s)
  | trans {s s' s'' : S} (h : Weak n0 s s') (h' : Weak n0 s' s'') : Weak n0 s s''

def iter (n0 : Nat) (f : (Exit → S → Prop) → S → Prop) (Q : Exit → S → Prop) : Nat → S → Prop
  | 0, _ => False
  | n + 1, s => ∃ s', Weak n0 s s' ∧ f (fun e s' => match e with | .normal => iter n0 f Q n s' | e => Q e s') s'

def seqQ (R : S → Prop) (Q : Exit → S → Prop) : Exit → S → Prop
  | .normal, s => R s
  | e, s => Q e s
def blockQ (id : Nat) (Q : Exit → S → Prop) : Exit → S → Prop
  | .exit i, s => if i = id then Q .normal s else Q (.exit i) s
  | e, s => Q e s
def LoopW (n0 : Nat) (f : (Exit → S → Prop) → S → Prop) (Q : Exit → S → Prop) (s : S) : Prop := ∃ n, iter n0 f Q n s

/-- Operations that read alone. -/
def stillO : Op → Bool
  | .move _ | .assign _ | .pick _ _ _ | .build _ _ | .load _ _ | .nilCheck _ | .binOp _ _ _ _ _ | .unOp _ _ _ | .convert _ _ _ | .makeFunc _ _ _ | .fieldAddr _ _ _ | .indexAddr _ _ _ | .index _ _ _ | .slice _ _ _ _ _ | .extract _ _ | .lookup _ _ _ _ => true
  | .call { callee := .builtin .len, .. } => true
  | .call { callee := .builtin .min, .. } => true
  | .call { callee := .builtin .max, .. } => true
  | _ => false

def headLen (ops : Array Oper) : Nat := (ops.toList.takeWhile fun o => stillO o.op).length
def drawOk (P : Program) (ops : Array Oper) : Bool := P.follows .mixedOrders && if ops.toList.all (fun o => stillO o.op) then Region.lexB .any ops else Region.lexTailB .any ops (headLen ops)

def codeW (P : Program) (n0 : Nat) : Code → (Exit → S → Prop) → S → Prop
  | .skip, Q, s => Q .normal s
  | .region _ ops draw, Q, s => (draw = true → drawOk P ops = true) ∧ opsW Sp P ops.toList ops.toList s (Q .normal)
  | .seq a b, Q, s => codeW P n0 a (seqQ (codeW P n0 b Q) Q) s
  | .cond c x y, Q, s => ∃ b, (opnd s c).bind boolOf = some b ∧ (b = true → codeW P n0 x Q s) ∧ (b = false → codeW P n0 y Q s)
  | .block id c, Q, s => codeW P n0 c (blockQ id Q) s
  | .loop c, Q, s => LoopW n0 (codeW P n0 c) Q s
  | .exit id, Q, s => Q (.exit id) s
  | .ret, Q, s => Q .ret s
  | _, _, _ => False

end Go.Ev
