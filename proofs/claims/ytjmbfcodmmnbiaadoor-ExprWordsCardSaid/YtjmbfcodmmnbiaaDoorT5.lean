import Derived.Test.YtjmbfcodmmnbiaaDoorProg
import Derived.KernelRfl
import Derived.IntWalk
import Derived.Test.YtjmbfcodmmnbiaaDoorRows
import Derived.Shelf.Pu.Clone
import Derived.Deep.DeepHandedRow
import Derived.Deep.DeepWitnessRowRef
import Derived.Lib.LaidIn
import Derived.Lib.LaidU8
import Derived.LaidLaws
import Derived.ChangeMaps5
import Derived.SizedLaws
import Derived.Test.YtjmbfcodmmnbiaaDoorT4
set_option linter.unusedVariables false
set_option linter.unusedSimpArgs false
/-
Type facts of the seat's program, printed by Facts.lean.
-/
set_option linter.unusedVariables false
namespace Go.Ev
open Go.Proofs
@[push_cast] theorem k0 : kindT Tryd.prog 0 = TK.other := by kernel_rfl
@[push_cast] theorem s0 : szT Tryd.prog 0 = 1 := by kernel_rfl
@[push_cast] theorem a0 : aggO Tryd.prog 0 = some false := by kernel_rfl
@[push_cast] theorem b0 : byT Tryd.prog 0 = 0 := by kernel_rfl
@[push_cast] theorem z0 : zeroT Tryd.prog 0 = AV.undef := by kernel_rfl
@[push_cast] theorem zk0 : zok Tryd.prog 0 = true := by kernel_rfl
@[push_cast] theorem bt0 : boolT Tryd.prog 0 = false := by kernel_rfl
@[push_cast] theorem pt0 : ptrT Tryd.prog 0 = false := by kernel_rfl
@[push_cast] theorem lt0 : leavesT Tryd.prog 0 = none := by kernel_rfl
@[push_cast] theorem k1 : kindT Tryd.prog 1 = TK.other := by kernel_rfl
@[push_cast] theorem s1 : szT Tryd.prog 1 = 1 := by kernel_rfl
@[push_cast] theorem a1 : aggO Tryd.prog 1 = some false := by kernel_rfl
@[push_cast] theorem b1 : byT Tryd.prog 1 = 8 := by kernel_rfl
@[push_cast] theorem z1 : zeroT Tryd.prog 1 = AV.nilf := by kernel_rfl
@[push_cast] theorem zk1 : zok Tryd.prog 1 = true := by kernel_rfl
@[push_cast] theorem bt1 : boolT Tryd.prog 1 = false := by kernel_rfl
@[push_cast] theorem pt1 : ptrT Tryd.prog 1 = false := by kernel_rfl
@[push_cast] theorem lt1 : leavesT Tryd.prog 1 = none := by kernel_rfl
@[push_cast] theorem k2 : kindT Tryd.prog 2 = TK.int IntKind.i64 := by kernel_rfl
@[push_cast] theorem s2 : szT Tryd.prog 2 = 1 := by kernel_rfl
@[push_cast] theorem a2 : aggO Tryd.prog 2 = some false := by kernel_rfl
@[push_cast] theorem b2 : byT Tryd.prog 2 = 8 := by kernel_rfl
@[push_cast] theorem z2 : zeroT Tryd.prog 2 = AV.int IntKind.i64 (Int.ofNat 0) := by kernel_rfl
@[push_cast] theorem zk2 : zok Tryd.prog 2 = true := by kernel_rfl
@[push_cast] theorem bt2 : boolT Tryd.prog 2 = false := by kernel_rfl
@[push_cast] theorem pt2 : ptrT Tryd.prog 2 = false := by kernel_rfl
@[push_cast] theorem lt2 : leavesT Tryd.prog 2 = none := by kernel_rfl
@[push_cast] theorem k3 : kindT Tryd.prog 3 = TK.int IntKind.i64 := by kernel_rfl
@[push_cast] theorem s3 : szT Tryd.prog 3 = 1 := by kernel_rfl
@[push_cast] theorem a3 : aggO Tryd.prog 3 = some false := by kernel_rfl
@[push_cast] theorem b3 : byT Tryd.prog 3 = 8 := by kernel_rfl
@[push_cast] theorem z3 : zeroT Tryd.prog 3 = AV.int IntKind.i64 (Int.ofNat 0) := by kernel_rfl
@[push_cast] theorem zk3 : zok Tryd.prog 3 = true := by kernel_rfl
@[push_cast] theorem bt3 : boolT Tryd.prog 3 = false := by kernel_rfl
@[push_cast] theorem pt3 : ptrT Tryd.prog 3 = false := by kernel_rfl
@[push_cast] theorem lt3 : leavesT Tryd.prog 3 = none := by kernel_rfl
@[push_cast] theorem k4 : kindT Tryd.prog 4 = TK.bool := by kernel_rfl
@[push_cast] theorem s4 : szT Tryd.prog 4 = 1 := by kernel_rfl
@[push_cast] theorem a4 : aggO Tryd.prog 4 = some false := by kernel_rfl
@[push_cast] theorem b4 : byT Tryd.prog 4 = 1 := by kernel_rfl
@[push_cast] theorem z4 : zeroT Tryd.prog 4 = AV.bool false := by kernel_rfl
@[push_cast] theorem zk4 : zok Tryd.prog 4 = true := by kernel_rfl
@[push_cast] theorem bt4 : boolT Tryd.prog 4 = true := by kernel_rfl
@[push_cast] theorem pt4 : ptrT Tryd.prog 4 = false := by kernel_rfl
@[push_cast] theorem lt4 : leavesT Tryd.prog 4 = none := by kernel_rfl
@[push_cast] theorem k5 : kindT Tryd.prog 5 = TK.int IntKind.u8 := by kernel_rfl
@[push_cast] theorem s5 : szT Tryd.prog 5 = 1 := by kernel_rfl
@[push_cast] theorem a5 : aggO Tryd.prog 5 = some false := by kernel_rfl
@[push_cast] theorem b5 : byT Tryd.prog 5 = 1 := by kernel_rfl
@[push_cast] theorem z5 : zeroT Tryd.prog 5 = AV.int IntKind.u8 (Int.ofNat 0) := by kernel_rfl
@[push_cast] theorem zk5 : zok Tryd.prog 5 = true := by kernel_rfl
@[push_cast] theorem bt5 : boolT Tryd.prog 5 = false := by kernel_rfl
@[push_cast] theorem pt5 : ptrT Tryd.prog 5 = false := by kernel_rfl
@[push_cast] theorem lt5 : leavesT Tryd.prog 5 = none := by kernel_rfl
@[push_cast] theorem k6 : kindT Tryd.prog 6 = TK.int IntKind.u8 := by kernel_rfl
@[push_cast] theorem s6 : szT Tryd.prog 6 = 1 := by kernel_rfl
@[push_cast] theorem a6 : aggO Tryd.prog 6 = some false := by kernel_rfl
@[push_cast] theorem b6 : byT Tryd.prog 6 = 1 := by kernel_rfl
@[push_cast] theorem z6 : zeroT Tryd.prog 6 = AV.int IntKind.u8 (Int.ofNat 0) := by kernel_rfl
@[push_cast] theorem zk6 : zok Tryd.prog 6 = true := by kernel_rfl
@[push_cast] theorem bt6 : boolT Tryd.prog 6 = false := by kernel_rfl
@[push_cast] theorem pt6 : ptrT Tryd.prog 6 = false := by kernel_rfl
@[push_cast] theorem lt6 : leavesT Tryd.prog 6 = none := by kernel_rfl
@[push_cast] theorem k7 : kindT Tryd.prog 7 = TK.struct := by kernel_rfl
@[push_cast] theorem s7 : szT Tryd.prog 7 = 4 := by kernel_rfl
@[push_cast] theorem a7 : aggO Tryd.prog 7 = some true := by kernel_rfl
@[push_cast] theorem b7 : byT Tryd.prog 7 = 24 := by kernel_rfl
@[push_cast] theorem z7 : zeroT Tryd.prog 7 = AV.agg [AV.int IntKind.i64 (Int.ofNat 0), AV.int IntKind.i64 (Int.ofNat 0), AV.bool false, AV.int IntKind.u8 (Int.ofNat 0)] := by kernel_rfl
@[push_cast] theorem zk7 : zok Tryd.prog 7 = true := by kernel_rfl
@[push_cast] theorem bt7 : boolT Tryd.prog 7 = false := by kernel_rfl
@[push_cast] theorem pt7 : ptrT Tryd.prog 7 = false := by kernel_rfl
@[push_cast] theorem lt7 : leavesT Tryd.prog 7 = some [LK.int IntKind.i64, LK.int IntKind.i64, LK.bool, LK.int IntKind.u8] := by kernel_rfl
@[push_cast] theorem fo7 : fieldsOk Tryd.prog 7 = true := by kernel_rfl
@[push_cast] theorem o7_0 : offT Tryd.prog 7 0 = some 0 := by kernel_rfl
@[push_cast] theorem f7_0 : fszT Tryd.prog 7 0 = 1 := by kernel_rfl
@[push_cast] theorem o7_1 : offT Tryd.prog 7 1 = some 1 := by kernel_rfl
@[push_cast] theorem f7_1 : fszT Tryd.prog 7 1 = 1 := by kernel_rfl
@[push_cast] theorem o7_2 : offT Tryd.prog 7 2 = some 2 := by kernel_rfl
@[push_cast] theorem f7_2 : fszT Tryd.prog 7 2 = 1 := by kernel_rfl
@[push_cast] theorem o7_3 : offT Tryd.prog 7 3 = some 3 := by kernel_rfl
@[push_cast] theorem f7_3 : fszT Tryd.prog 7 3 = 1 := by kernel_rfl
@[push_cast] theorem k8 : kindT Tryd.prog 8 = TK.struct := by kernel_rfl
@[push_cast] theorem s8 : szT Tryd.prog 8 = 4 := by kernel_rfl
@[push_cast] theorem a8 : aggO Tryd.prog 8 = some true := by kernel_rfl
@[push_cast] theorem b8 : byT Tryd.prog 8 = 24 := by kernel_rfl
@[push_cast] theorem z8 : zeroT Tryd.prog 8 = AV.agg [AV.int IntKind.i64 (Int.ofNat 0), AV.int IntKind.i64 (Int.ofNat 0), AV.bool false, AV.int IntKind.u8 (Int.ofNat 0)] := by kernel_rfl
@[push_cast] theorem zk8 : zok Tryd.prog 8 = true := by kernel_rfl
@[push_cast] theorem bt8 : boolT Tryd.prog 8 = false := by kernel_rfl
@[push_cast] theorem pt8 : ptrT Tryd.prog 8 = false := by kernel_rfl
@[push_cast] theorem lt8 : leavesT Tryd.prog 8 = some [LK.int IntKind.i64, LK.int IntKind.i64, LK.bool, LK.int IntKind.u8] := by kernel_rfl
@[push_cast] theorem fo8 : fieldsOk Tryd.prog 8 = true := by kernel_rfl
@[push_cast] theorem o8_0 : offT Tryd.prog 8 0 = some 0 := by kernel_rfl
@[push_cast] theorem f8_0 : fszT Tryd.prog 8 0 = 1 := by kernel_rfl
@[push_cast] theorem o8_1 : offT Tryd.prog 8 1 = some 1 := by kernel_rfl
@[push_cast] theorem f8_1 : fszT Tryd.prog 8 1 = 1 := by kernel_rfl
@[push_cast] theorem o8_2 : offT Tryd.prog 8 2 = some 2 := by kernel_rfl
@[push_cast] theorem f8_2 : fszT Tryd.prog 8 2 = 1 := by kernel_rfl
@[push_cast] theorem o8_3 : offT Tryd.prog 8 3 = some 3 := by kernel_rfl
@[push_cast] theorem f8_3 : fszT Tryd.prog 8 3 = 1 := by kernel_rfl
@[push_cast] theorem k9 : kindT Tryd.prog 9 = TK.str := by kernel_rfl
@[push_cast] theorem s9 : szT Tryd.prog 9 = 1 := by kernel_rfl
@[push_cast] theorem a9 : aggO Tryd.prog 9 = some false := by kernel_rfl
@[push_cast] theorem b9 : byT Tryd.prog 9 = 16 := by kernel_rfl
@[push_cast] theorem z9 : zeroT Tryd.prog 9 = AV.str { data := { toList := [] } } := by kernel_rfl
@[push_cast] theorem zk9 : zok Tryd.prog 9 = true := by kernel_rfl
@[push_cast] theorem bt9 : boolT Tryd.prog 9 = false := by kernel_rfl
@[push_cast] theorem pt9 : ptrT Tryd.prog 9 = false := by kernel_rfl
@[push_cast] theorem lt9 : leavesT Tryd.prog 9 = none := by kernel_rfl
@[push_cast] theorem k10 : kindT Tryd.prog 10 = TK.str := by kernel_rfl
@[push_cast] theorem s10 : szT Tryd.prog 10 = 1 := by kernel_rfl
@[push_cast] theorem a10 : aggO Tryd.prog 10 = some false := by kernel_rfl
@[push_cast] theorem b10 : byT Tryd.prog 10 = 16 := by kernel_rfl
@[push_cast] theorem z10 : zeroT Tryd.prog 10 = AV.str { data := { toList := [] } } := by kernel_rfl
@[push_cast] theorem zk10 : zok Tryd.prog 10 = true := by kernel_rfl
@[push_cast] theorem bt10 : boolT Tryd.prog 10 = false := by kernel_rfl
@[push_cast] theorem pt10 : ptrT Tryd.prog 10 = false := by kernel_rfl
@[push_cast] theorem lt10 : leavesT Tryd.prog 10 = none := by kernel_rfl
@[push_cast] theorem k11 : kindT Tryd.prog 11 = TK.str := by kernel_rfl
@[push_cast] theorem s11 : szT Tryd.prog 11 = 1 := by kernel_rfl
@[push_cast] theorem a11 : aggO Tryd.prog 11 = some false := by kernel_rfl
@[push_cast] theorem b11 : byT Tryd.prog 11 = 16 := by kernel_rfl
@[push_cast] theorem z11 : zeroT Tryd.prog 11 = AV.str { data := { toList := [] } } := by kernel_rfl
@[push_cast] theorem zk11 : zok Tryd.prog 11 = true := by kernel_rfl
@[push_cast] theorem bt11 : boolT Tryd.prog 11 = false := by kernel_rfl
@[push_cast] theorem pt11 : ptrT Tryd.prog 11 = false := by kernel_rfl
@[push_cast] theorem lt11 : leavesT Tryd.prog 11 = none := by kernel_rfl
@[push_cast] theorem k12 : kindT Tryd.prog 12 = TK.int IntKind.u64 := by kernel_rfl
@[push_cast] theorem s12 : szT Tryd.prog 12 = 1 := by kernel_rfl
@[push_cast] theorem a12 : aggO Tryd.prog 12 = some false := by kernel_rfl
@[push_cast] theorem b12 : byT Tryd.prog 12 = 8 := by kernel_rfl
@[push_cast] theorem z12 : zeroT Tryd.prog 12 = AV.int IntKind.u64 (Int.ofNat 0) := by kernel_rfl
@[push_cast] theorem zk12 : zok Tryd.prog 12 = true := by kernel_rfl
@[push_cast] theorem bt12 : boolT Tryd.prog 12 = false := by kernel_rfl
@[push_cast] theorem pt12 : ptrT Tryd.prog 12 = false := by kernel_rfl
@[push_cast] theorem lt12 : leavesT Tryd.prog 12 = none := by kernel_rfl
@[push_cast] theorem k13 : kindT Tryd.prog 13 = TK.struct := by kernel_rfl
@[push_cast] theorem s13 : szT Tryd.prog 13 = 2 := by kernel_rfl
@[push_cast] theorem a13 : aggO Tryd.prog 13 = some true := by kernel_rfl
@[push_cast] theorem b13 : byT Tryd.prog 13 = 24 := by kernel_rfl
@[push_cast] theorem z13 : zeroT Tryd.prog 13 = AV.agg [AV.str { data := { toList := [] } }, AV.int IntKind.u64 (Int.ofNat 0)] := by kernel_rfl
@[push_cast] theorem zk13 : zok Tryd.prog 13 = true := by kernel_rfl
@[push_cast] theorem bt13 : boolT Tryd.prog 13 = false := by kernel_rfl
@[push_cast] theorem pt13 : ptrT Tryd.prog 13 = false := by kernel_rfl
@[push_cast] theorem lt13 : leavesT Tryd.prog 13 = none := by kernel_rfl
@[push_cast] theorem fo13 : fieldsOk Tryd.prog 13 = true := by kernel_rfl
@[push_cast] theorem o13_0 : offT Tryd.prog 13 0 = some 0 := by kernel_rfl
@[push_cast] theorem f13_0 : fszT Tryd.prog 13 0 = 1 := by kernel_rfl
@[push_cast] theorem o13_1 : offT Tryd.prog 13 1 = some 1 := by kernel_rfl
@[push_cast] theorem f13_1 : fszT Tryd.prog 13 1 = 1 := by kernel_rfl
@[push_cast] theorem k14 : kindT Tryd.prog 14 = TK.struct := by kernel_rfl
@[push_cast] theorem s14 : szT Tryd.prog 14 = 2 := by kernel_rfl
@[push_cast] theorem a14 : aggO Tryd.prog 14 = some true := by kernel_rfl
@[push_cast] theorem b14 : byT Tryd.prog 14 = 24 := by kernel_rfl
@[push_cast] theorem z14 : zeroT Tryd.prog 14 = AV.agg [AV.str { data := { toList := [] } }, AV.int IntKind.u64 (Int.ofNat 0)] := by kernel_rfl
@[push_cast] theorem zk14 : zok Tryd.prog 14 = true := by kernel_rfl
@[push_cast] theorem bt14 : boolT Tryd.prog 14 = false := by kernel_rfl
@[push_cast] theorem pt14 : ptrT Tryd.prog 14 = false := by kernel_rfl
@[push_cast] theorem lt14 : leavesT Tryd.prog 14 = none := by kernel_rfl
@[push_cast] theorem fo14 : fieldsOk Tryd.prog 14 = true := by kernel_rfl
@[push_cast] theorem o14_0 : offT Tryd.prog 14 0 = some 0 := by kernel_rfl
@[push_cast] theorem f14_0 : fszT Tryd.prog 14 0 = 1 := by kernel_rfl
@[push_cast] theorem o14_1 : offT Tryd.prog 14 1 = some 1 := by kernel_rfl
@[push_cast] theorem f14_1 : fszT Tryd.prog 14 1 = 1 := by kernel_rfl
@[push_cast] theorem k15 : kindT Tryd.prog 15 = TK.ptr 152 := by kernel_rfl
@[push_cast] theorem s15 : szT Tryd.prog 15 = 1 := by kernel_rfl
@[push_cast] theorem a15 : aggO Tryd.prog 15 = some false := by kernel_rfl
@[push_cast] theorem b15 : byT Tryd.prog 15 = 8 := by kernel_rfl
@[push_cast] theorem z15 : zeroT Tryd.prog 15 = AV.nilp := by kernel_rfl
@[push_cast] theorem zk15 : zok Tryd.prog 15 = true := by kernel_rfl
@[push_cast] theorem bt15 : boolT Tryd.prog 15 = false := by kernel_rfl
@[push_cast] theorem pt15 : ptrT Tryd.prog 15 = true := by kernel_rfl
@[push_cast] theorem lt15 : leavesT Tryd.prog 15 = none := by kernel_rfl
@[push_cast] theorem k16 : kindT Tryd.prog 16 = TK.ptr 155 := by kernel_rfl
@[push_cast] theorem s16 : szT Tryd.prog 16 = 1 := by kernel_rfl
@[push_cast] theorem a16 : aggO Tryd.prog 16 = some false := by kernel_rfl
@[push_cast] theorem b16 : byT Tryd.prog 16 = 8 := by kernel_rfl
@[push_cast] theorem z16 : zeroT Tryd.prog 16 = AV.nilp := by kernel_rfl
@[push_cast] theorem zk16 : zok Tryd.prog 16 = true := by kernel_rfl
@[push_cast] theorem bt16 : boolT Tryd.prog 16 = false := by kernel_rfl
@[push_cast] theorem pt16 : ptrT Tryd.prog 16 = true := by kernel_rfl
@[push_cast] theorem lt16 : leavesT Tryd.prog 16 = none := by kernel_rfl
@[push_cast] theorem k17 : kindT Tryd.prog 17 = TK.ptr 163 := by kernel_rfl
@[push_cast] theorem s17 : szT Tryd.prog 17 = 1 := by kernel_rfl
@[push_cast] theorem a17 : aggO Tryd.prog 17 = some false := by kernel_rfl
@[push_cast] theorem b17 : byT Tryd.prog 17 = 8 := by kernel_rfl
@[push_cast] theorem z17 : zeroT Tryd.prog 17 = AV.nilp := by kernel_rfl
@[push_cast] theorem zk17 : zok Tryd.prog 17 = true := by kernel_rfl
@[push_cast] theorem bt17 : boolT Tryd.prog 17 = false := by kernel_rfl
@[push_cast] theorem pt17 : ptrT Tryd.prog 17 = true := by kernel_rfl
@[push_cast] theorem lt17 : leavesT Tryd.prog 17 = none := by kernel_rfl
@[push_cast] theorem k18 : kindT Tryd.prog 18 = TK.struct := by kernel_rfl
@[push_cast] theorem s18 : szT Tryd.prog 18 = 1 := by kernel_rfl
@[push_cast] theorem a18 : aggO Tryd.prog 18 = some true := by kernel_rfl
@[push_cast] theorem b18 : byT Tryd.prog 18 = 8 := by kernel_rfl
@[push_cast] theorem z18 : zeroT Tryd.prog 18 = AV.agg [AV.nilp] := by kernel_rfl
@[push_cast] theorem zk18 : zok Tryd.prog 18 = true := by kernel_rfl
@[push_cast] theorem bt18 : boolT Tryd.prog 18 = false := by kernel_rfl
@[push_cast] theorem pt18 : ptrT Tryd.prog 18 = false := by kernel_rfl
@[push_cast] theorem lt18 : leavesT Tryd.prog 18 = none := by kernel_rfl
@[push_cast] theorem fo18 : fieldsOk Tryd.prog 18 = true := by kernel_rfl
@[push_cast] theorem o18_0 : offT Tryd.prog 18 0 = some 0 := by kernel_rfl
@[push_cast] theorem f18_0 : fszT Tryd.prog 18 0 = 1 := by kernel_rfl
@[push_cast] theorem k19 : kindT Tryd.prog 19 = TK.struct := by kernel_rfl
@[push_cast] theorem s19 : szT Tryd.prog 19 = 1 := by kernel_rfl
@[push_cast] theorem a19 : aggO Tryd.prog 19 = some true := by kernel_rfl
@[push_cast] theorem b19 : byT Tryd.prog 19 = 8 := by kernel_rfl
@[push_cast] theorem z19 : zeroT Tryd.prog 19 = AV.agg [AV.nilp] := by kernel_rfl
@[push_cast] theorem zk19 : zok Tryd.prog 19 = true := by kernel_rfl
@[push_cast] theorem bt19 : boolT Tryd.prog 19 = false := by kernel_rfl
@[push_cast] theorem pt19 : ptrT Tryd.prog 19 = false := by kernel_rfl
@[push_cast] theorem lt19 : leavesT Tryd.prog 19 = none := by kernel_rfl
@[push_cast] theorem fo19 : fieldsOk Tryd.prog 19 = true := by kernel_rfl
@[push_cast] theorem o19_0 : offT Tryd.prog 19 0 = some 0 := by kernel_rfl
@[push_cast] theorem f19_0 : fszT Tryd.prog 19 0 = 1 := by kernel_rfl
@[push_cast] theorem k20 : kindT Tryd.prog 20 = TK.other := by kernel_rfl
@[push_cast] theorem s20 : szT Tryd.prog 20 = 1 := by kernel_rfl
@[push_cast] theorem a20 : aggO Tryd.prog 20 = some false := by kernel_rfl
@[push_cast] theorem b20 : byT Tryd.prog 20 = 16 := by kernel_rfl
@[push_cast] theorem z20 : zeroT Tryd.prog 20 = AV.nili := by kernel_rfl
@[push_cast] theorem zk20 : zok Tryd.prog 20 = true := by kernel_rfl
@[push_cast] theorem bt20 : boolT Tryd.prog 20 = false := by kernel_rfl
@[push_cast] theorem pt20 : ptrT Tryd.prog 20 = false := by kernel_rfl
@[push_cast] theorem lt20 : leavesT Tryd.prog 20 = none := by kernel_rfl
@[push_cast] theorem k21 : kindT Tryd.prog 21 = TK.int IntKind.i32 := by kernel_rfl
@[push_cast] theorem s21 : szT Tryd.prog 21 = 1 := by kernel_rfl
@[push_cast] theorem a21 : aggO Tryd.prog 21 = some false := by kernel_rfl
@[push_cast] theorem b21 : byT Tryd.prog 21 = 4 := by kernel_rfl
@[push_cast] theorem z21 : zeroT Tryd.prog 21 = AV.int IntKind.i32 (Int.ofNat 0) := by kernel_rfl
@[push_cast] theorem zk21 : zok Tryd.prog 21 = true := by kernel_rfl
@[push_cast] theorem bt21 : boolT Tryd.prog 21 = false := by kernel_rfl
@[push_cast] theorem pt21 : ptrT Tryd.prog 21 = false := by kernel_rfl
@[push_cast] theorem lt21 : leavesT Tryd.prog 21 = none := by kernel_rfl
@[push_cast] theorem k22 : kindT Tryd.prog 22 = TK.slice 50 := by kernel_rfl
@[push_cast] theorem s22 : szT Tryd.prog 22 = 1 := by kernel_rfl
@[push_cast] theorem a22 : aggO Tryd.prog 22 = some false := by kernel_rfl
@[push_cast] theorem b22 : byT Tryd.prog 22 = 24 := by kernel_rfl
@[push_cast] theorem z22 : zeroT Tryd.prog 22 = AV.olst 3 [] := by kernel_rfl
@[push_cast] theorem zk22 : zok Tryd.prog 22 = true := by kernel_rfl
@[push_cast] theorem bt22 : boolT Tryd.prog 22 = false := by kernel_rfl
@[push_cast] theorem pt22 : ptrT Tryd.prog 22 = false := by kernel_rfl
@[push_cast] theorem lt22 : leavesT Tryd.prog 22 = none := by kernel_rfl
@[push_cast] theorem k23 : kindT Tryd.prog 23 = TK.struct := by kernel_rfl
@[push_cast] theorem s23 : szT Tryd.prog 23 = 3 := by kernel_rfl
@[push_cast] theorem a23 : aggO Tryd.prog 23 = some true := by kernel_rfl
@[push_cast] theorem b23 : byT Tryd.prog 23 = 32 := by kernel_rfl
@[push_cast] theorem z23 : zeroT Tryd.prog 23 = AV.agg [AV.int IntKind.i64 (Int.ofNat 0), AV.int IntKind.i64 (Int.ofNat 0), AV.str { data := { toList := [] } }] := by kernel_rfl
@[push_cast] theorem zk23 : zok Tryd.prog 23 = true := by kernel_rfl
@[push_cast] theorem bt23 : boolT Tryd.prog 23 = false := by kernel_rfl
@[push_cast] theorem pt23 : ptrT Tryd.prog 23 = false := by kernel_rfl
@[push_cast] theorem lt23 : leavesT Tryd.prog 23 = some [LK.int IntKind.i64, LK.int IntKind.i64, LK.str] := by kernel_rfl
@[push_cast] theorem fo23 : fieldsOk Tryd.prog 23 = true := by kernel_rfl
@[push_cast] theorem o23_0 : offT Tryd.prog 23 0 = some 0 := by kernel_rfl
@[push_cast] theorem f23_0 : fszT Tryd.prog 23 0 = 1 := by kernel_rfl
@[push_cast] theorem o23_1 : offT Tryd.prog 23 1 = some 1 := by kernel_rfl
@[push_cast] theorem f23_1 : fszT Tryd.prog 23 1 = 1 := by kernel_rfl
@[push_cast] theorem o23_2 : offT Tryd.prog 23 2 = some 2 := by kernel_rfl
@[push_cast] theorem f23_2 : fszT Tryd.prog 23 2 = 1 := by kernel_rfl
@[push_cast] theorem k24 : kindT Tryd.prog 24 = TK.struct := by kernel_rfl
@[push_cast] theorem s24 : szT Tryd.prog 24 = 3 := by kernel_rfl
@[push_cast] theorem a24 : aggO Tryd.prog 24 = some true := by kernel_rfl
@[push_cast] theorem b24 : byT Tryd.prog 24 = 32 := by kernel_rfl
@[push_cast] theorem z24 : zeroT Tryd.prog 24 = AV.agg [AV.int IntKind.i64 (Int.ofNat 0), AV.int IntKind.i64 (Int.ofNat 0), AV.str { data := { toList := [] } }] := by kernel_rfl
@[push_cast] theorem zk24 : zok Tryd.prog 24 = true := by kernel_rfl
@[push_cast] theorem bt24 : boolT Tryd.prog 24 = false := by kernel_rfl
@[push_cast] theorem pt24 : ptrT Tryd.prog 24 = false := by kernel_rfl
@[push_cast] theorem lt24 : leavesT Tryd.prog 24 = some [LK.int IntKind.i64, LK.int IntKind.i64, LK.str] := by kernel_rfl
@[push_cast] theorem fo24 : fieldsOk Tryd.prog 24 = true := by kernel_rfl
@[push_cast] theorem o24_0 : offT Tryd.prog 24 0 = some 0 := by kernel_rfl
@[push_cast] theorem f24_0 : fszT Tryd.prog 24 0 = 1 := by kernel_rfl
@[push_cast] theorem o24_1 : offT Tryd.prog 24 1 = some 1 := by kernel_rfl
@[push_cast] theorem f24_1 : fszT Tryd.prog 24 1 = 1 := by kernel_rfl
@[push_cast] theorem o24_2 : offT Tryd.prog 24 2 = some 2 := by kernel_rfl
@[push_cast] theorem f24_2 : fszT Tryd.prog 24 2 = 1 := by kernel_rfl
@[push_cast] theorem k25 : kindT Tryd.prog 25 = TK.struct := by kernel_rfl
@[push_cast] theorem s25 : szT Tryd.prog 25 = 12 := by kernel_rfl
@[push_cast] theorem a25 : aggO Tryd.prog 25 = some true := by kernel_rfl
@[push_cast] theorem b25 : byT Tryd.prog 25 = 128 := by kernel_rfl
@[push_cast] theorem z25 : zeroT Tryd.prog 25 = AV.agg [AV.str { data := { toList := [] } }, AV.int IntKind.i64 (Int.ofNat 0), AV.int IntKind.i64 (Int.ofNat 0), AV.str { data := { toList := [] } }, AV.int IntKind.i64 (Int.ofNat 0), AV.int IntKind.i64 (Int.ofNat 0), AV.int IntKind.i64 (Int.ofNat 0), AV.int IntKind.i64 (Int.ofNat 0), AV.str { data := { toList := [] } }, AV.int IntKind.i64 (Int.ofNat 0), AV.int IntKind.i64 (Int.ofNat 0), AV.str { data := { toList := [] } }] := by kernel_rfl
@[push_cast] theorem zk25 : zok Tryd.prog 25 = true := by kernel_rfl
@[push_cast] theorem bt25 : boolT Tryd.prog 25 = false := by kernel_rfl
@[push_cast] theorem pt25 : ptrT Tryd.prog 25 = false := by kernel_rfl
@[push_cast] theorem lt25 : leavesT Tryd.prog 25 = some [LK.str, LK.int IntKind.i64, LK.int IntKind.i64, LK.str, LK.int IntKind.i64, LK.int IntKind.i64, LK.int IntKind.i64, LK.int IntKind.i64, LK.str, LK.int IntKind.i64, LK.int IntKind.i64, LK.str] := by kernel_rfl
@[push_cast] theorem fo25 : fieldsOk Tryd.prog 25 = true := by kernel_rfl
@[push_cast] theorem o25_0 : offT Tryd.prog 25 0 = some 0 := by kernel_rfl
@[push_cast] theorem f25_0 : fszT Tryd.prog 25 0 = 1 := by kernel_rfl
@[push_cast] theorem o25_1 : offT Tryd.prog 25 1 = some 1 := by kernel_rfl
@[push_cast] theorem f25_1 : fszT Tryd.prog 25 1 = 3 := by kernel_rfl
@[push_cast] theorem o25_2 : offT Tryd.prog 25 2 = some 4 := by kernel_rfl
@[push_cast] theorem f25_2 : fszT Tryd.prog 25 2 = 1 := by kernel_rfl
@[push_cast] theorem o25_3 : offT Tryd.prog 25 3 = some 5 := by kernel_rfl
@[push_cast] theorem f25_3 : fszT Tryd.prog 25 3 = 1 := by kernel_rfl
@[push_cast] theorem o25_4 : offT Tryd.prog 25 4 = some 6 := by kernel_rfl
@[push_cast] theorem f25_4 : fszT Tryd.prog 25 4 = 3 := by kernel_rfl
@[push_cast] theorem o25_5 : offT Tryd.prog 25 5 = some 9 := by kernel_rfl
@[push_cast] theorem f25_5 : fszT Tryd.prog 25 5 = 3 := by kernel_rfl
@[push_cast] theorem k26 : kindT Tryd.prog 26 = TK.struct := by kernel_rfl
@[push_cast] theorem s26 : szT Tryd.prog 26 = 12 := by kernel_rfl
@[push_cast] theorem a26 : aggO Tryd.prog 26 = some true := by kernel_rfl
@[push_cast] theorem b26 : byT Tryd.prog 26 = 128 := by kernel_rfl
@[push_cast] theorem z26 : zeroT Tryd.prog 26 = AV.agg [AV.str { data := { toList := [] } }, AV.int IntKind.i64 (Int.ofNat 0), AV.int IntKind.i64 (Int.ofNat 0), AV.str { data := { toList := [] } }, AV.int IntKind.i64 (Int.ofNat 0), AV.int IntKind.i64 (Int.ofNat 0), AV.int IntKind.i64 (Int.ofNat 0), AV.int IntKind.i64 (Int.ofNat 0), AV.str { data := { toList := [] } }, AV.int IntKind.i64 (Int.ofNat 0), AV.int IntKind.i64 (Int.ofNat 0), AV.str { data := { toList := [] } }] := by kernel_rfl
@[push_cast] theorem zk26 : zok Tryd.prog 26 = true := by kernel_rfl
@[push_cast] theorem bt26 : boolT Tryd.prog 26 = false := by kernel_rfl
@[push_cast] theorem pt26 : ptrT Tryd.prog 26 = false := by kernel_rfl
@[push_cast] theorem lt26 : leavesT Tryd.prog 26 = some [LK.str, LK.int IntKind.i64, LK.int IntKind.i64, LK.str, LK.int IntKind.i64, LK.int IntKind.i64, LK.int IntKind.i64, LK.int IntKind.i64, LK.str, LK.int IntKind.i64, LK.int IntKind.i64, LK.str] := by kernel_rfl
@[push_cast] theorem fo26 : fieldsOk Tryd.prog 26 = true := by kernel_rfl
@[push_cast] theorem o26_0 : offT Tryd.prog 26 0 = some 0 := by kernel_rfl
@[push_cast] theorem f26_0 : fszT Tryd.prog 26 0 = 1 := by kernel_rfl
@[push_cast] theorem o26_1 : offT Tryd.prog 26 1 = some 1 := by kernel_rfl
@[push_cast] theorem f26_1 : fszT Tryd.prog 26 1 = 3 := by kernel_rfl
@[push_cast] theorem o26_2 : offT Tryd.prog 26 2 = some 4 := by kernel_rfl
@[push_cast] theorem f26_2 : fszT Tryd.prog 26 2 = 1 := by kernel_rfl
@[push_cast] theorem o26_3 : offT Tryd.prog 26 3 = some 5 := by kernel_rfl
@[push_cast] theorem f26_3 : fszT Tryd.prog 26 3 = 1 := by kernel_rfl
@[push_cast] theorem o26_4 : offT Tryd.prog 26 4 = some 6 := by kernel_rfl
@[push_cast] theorem f26_4 : fszT Tryd.prog 26 4 = 3 := by kernel_rfl
@[push_cast] theorem o26_5 : offT Tryd.prog 26 5 = some 9 := by kernel_rfl
@[push_cast] theorem f26_5 : fszT Tryd.prog 26 5 = 3 := by kernel_rfl
@[push_cast] theorem k27 : kindT Tryd.prog 27 = TK.other := by kernel_rfl
@[push_cast] theorem s27 : szT Tryd.prog 27 = 1 := by kernel_rfl
@[push_cast] theorem a27 : aggO Tryd.prog 27 = some false := by kernel_rfl
@[push_cast] theorem b27 : byT Tryd.prog 27 = 8 := by kernel_rfl
@[push_cast] theorem z27 : zeroT Tryd.prog 27 = AV.nilf := by kernel_rfl
@[push_cast] theorem zk27 : zok Tryd.prog 27 = true := by kernel_rfl
@[push_cast] theorem bt27 : boolT Tryd.prog 27 = false := by kernel_rfl
@[push_cast] theorem pt27 : ptrT Tryd.prog 27 = false := by kernel_rfl
@[push_cast] theorem lt27 : leavesT Tryd.prog 27 = none := by kernel_rfl
@[push_cast] theorem k28 : kindT Tryd.prog 28 = TK.other := by kernel_rfl
@[push_cast] theorem s28 : szT Tryd.prog 28 = 1 := by kernel_rfl
@[push_cast] theorem a28 : aggO Tryd.prog 28 = some false := by kernel_rfl
@[push_cast] theorem b28 : byT Tryd.prog 28 = 8 := by kernel_rfl
@[push_cast] theorem z28 : zeroT Tryd.prog 28 = AV.nilf := by kernel_rfl
@[push_cast] theorem zk28 : zok Tryd.prog 28 = true := by kernel_rfl
@[push_cast] theorem bt28 : boolT Tryd.prog 28 = false := by kernel_rfl
@[push_cast] theorem pt28 : ptrT Tryd.prog 28 = false := by kernel_rfl
@[push_cast] theorem lt28 : leavesT Tryd.prog 28 = none := by kernel_rfl
@[push_cast] theorem k29 : kindT Tryd.prog 29 = TK.int IntKind.i64 := by kernel_rfl
@[push_cast] theorem s29 : szT Tryd.prog 29 = 1 := by kernel_rfl
@[push_cast] theorem a29 : aggO Tryd.prog 29 = some false := by kernel_rfl
@[push_cast] theorem b29 : byT Tryd.prog 29 = 8 := by kernel_rfl
@[push_cast] theorem z29 : zeroT Tryd.prog 29 = AV.int IntKind.i64 (Int.ofNat 0) := by kernel_rfl
@[push_cast] theorem zk29 : zok Tryd.prog 29 = true := by kernel_rfl
@[push_cast] theorem bt29 : boolT Tryd.prog 29 = false := by kernel_rfl
@[push_cast] theorem pt29 : ptrT Tryd.prog 29 = false := by kernel_rfl
@[push_cast] theorem lt29 : leavesT Tryd.prog 29 = none := by kernel_rfl
@[push_cast] theorem k30 : kindT Tryd.prog 30 = TK.other := by kernel_rfl
@[push_cast] theorem s30 : szT Tryd.prog 30 = 1 := by kernel_rfl
@[push_cast] theorem a30 : aggO Tryd.prog 30 = some false := by kernel_rfl
@[push_cast] theorem b30 : byT Tryd.prog 30 = 8 := by kernel_rfl
@[push_cast] theorem z30 : zeroT Tryd.prog 30 = AV.nilf := by kernel_rfl
@[push_cast] theorem zk30 : zok Tryd.prog 30 = true := by kernel_rfl
@[push_cast] theorem bt30 : boolT Tryd.prog 30 = false := by kernel_rfl
@[push_cast] theorem pt30 : ptrT Tryd.prog 30 = false := by kernel_rfl
@[push_cast] theorem lt30 : leavesT Tryd.prog 30 = none := by kernel_rfl
@[push_cast] theorem k31 : kindT Tryd.prog 31 = TK.other := by kernel_rfl
@[push_cast] theorem s31 : szT Tryd.prog 31 = 1 := by kernel_rfl
@[push_cast] theorem a31 : aggO Tryd.prog 31 = some false := by kernel_rfl
@[push_cast] theorem b31 : byT Tryd.prog 31 = 8 := by kernel_rfl
@[push_cast] theorem z31 : zeroT Tryd.prog 31 = AV.nilf := by kernel_rfl
@[push_cast] theorem zk31 : zok Tryd.prog 31 = true := by kernel_rfl
@[push_cast] theorem bt31 : boolT Tryd.prog 31 = false := by kernel_rfl
@[push_cast] theorem pt31 : ptrT Tryd.prog 31 = false := by kernel_rfl
@[push_cast] theorem lt31 : leavesT Tryd.prog 31 = none := by kernel_rfl
@[push_cast] theorem k32 : kindT Tryd.prog 32 = TK.other := by kernel_rfl
@[push_cast] theorem s32 : szT Tryd.prog 32 = 1 := by kernel_rfl
@[push_cast] theorem a32 : aggO Tryd.prog 32 = some false := by kernel_rfl
@[push_cast] theorem b32 : byT Tryd.prog 32 = 8 := by kernel_rfl
@[push_cast] theorem z32 : zeroT Tryd.prog 32 = AV.nilf := by kernel_rfl
@[push_cast] theorem zk32 : zok Tryd.prog 32 = true := by kernel_rfl
@[push_cast] theorem bt32 : boolT Tryd.prog 32 = false := by kernel_rfl
@[push_cast] theorem pt32 : ptrT Tryd.prog 32 = false := by kernel_rfl
@[push_cast] theorem lt32 : leavesT Tryd.prog 32 = none := by kernel_rfl
@[push_cast] theorem k33 : kindT Tryd.prog 33 = TK.struct := by kernel_rfl
@[push_cast] theorem s33 : szT Tryd.prog 33 = 3 := by kernel_rfl
@[push_cast] theorem a33 : aggO Tryd.prog 33 = some true := by kernel_rfl
@[push_cast] theorem b33 : byT Tryd.prog 33 = 32 := by kernel_rfl
@[push_cast] theorem z33 : zeroT Tryd.prog 33 = AV.agg [AV.int IntKind.i64 (Int.ofNat 0), AV.int IntKind.i64 (Int.ofNat 0), AV.str { data := { toList := [] } }] := by kernel_rfl
@[push_cast] theorem zk33 : zok Tryd.prog 33 = true := by kernel_rfl
@[push_cast] theorem bt33 : boolT Tryd.prog 33 = false := by kernel_rfl
@[push_cast] theorem pt33 : ptrT Tryd.prog 33 = false := by kernel_rfl
@[push_cast] theorem lt33 : leavesT Tryd.prog 33 = some [LK.int IntKind.i64, LK.int IntKind.i64, LK.str] := by kernel_rfl
@[push_cast] theorem fo33 : fieldsOk Tryd.prog 33 = true := by kernel_rfl
@[push_cast] theorem o33_0 : offT Tryd.prog 33 0 = some 0 := by kernel_rfl
@[push_cast] theorem f33_0 : fszT Tryd.prog 33 0 = 1 := by kernel_rfl
@[push_cast] theorem o33_1 : offT Tryd.prog 33 1 = some 1 := by kernel_rfl
@[push_cast] theorem f33_1 : fszT Tryd.prog 33 1 = 1 := by kernel_rfl
@[push_cast] theorem o33_2 : offT Tryd.prog 33 2 = some 2 := by kernel_rfl
@[push_cast] theorem f33_2 : fszT Tryd.prog 33 2 = 1 := by kernel_rfl
@[push_cast] theorem k34 : kindT Tryd.prog 34 = TK.other := by kernel_rfl
@[push_cast] theorem s34 : szT Tryd.prog 34 = 1 := by kernel_rfl
@[push_cast] theorem a34 : aggO Tryd.prog 34 = some false := by kernel_rfl
@[push_cast] theorem b34 : byT Tryd.prog 34 = 0 := by kernel_rfl
@[push_cast] theorem z34 : zeroT Tryd.prog 34 = AV.undef := by kernel_rfl
@[push_cast] theorem zk34 : zok Tryd.prog 34 = true := by kernel_rfl
@[push_cast] theorem bt34 : boolT Tryd.prog 34 = false := by kernel_rfl
@[push_cast] theorem pt34 : ptrT Tryd.prog 34 = false := by kernel_rfl
@[push_cast] theorem lt34 : leavesT Tryd.prog 34 = none := by kernel_rfl
@[push_cast] theorem k35 : kindT Tryd.prog 35 = TK.other := by kernel_rfl
@[push_cast] theorem s35 : szT Tryd.prog 35 = 1 := by kernel_rfl
@[push_cast] theorem a35 : aggO Tryd.prog 35 = some false := by kernel_rfl
@[push_cast] theorem b35 : byT Tryd.prog 35 = 8 := by kernel_rfl
@[push_cast] theorem z35 : zeroT Tryd.prog 35 = AV.nilf := by kernel_rfl
@[push_cast] theorem zk35 : zok Tryd.prog 35 = true := by kernel_rfl
@[push_cast] theorem bt35 : boolT Tryd.prog 35 = false := by kernel_rfl
@[push_cast] theorem pt35 : ptrT Tryd.prog 35 = false := by kernel_rfl
@[push_cast] theorem lt35 : leavesT Tryd.prog 35 = none := by kernel_rfl
@[push_cast] theorem k36 : kindT Tryd.prog 36 = TK.slice 48 := by kernel_rfl
@[push_cast] theorem s36 : szT Tryd.prog 36 = 1 := by kernel_rfl
@[push_cast] theorem a36 : aggO Tryd.prog 36 = some false := by kernel_rfl
@[push_cast] theorem b36 : byT Tryd.prog 36 = 24 := by kernel_rfl
@[push_cast] theorem z36 : zeroT Tryd.prog 36 = AV.olst 3 [] := by kernel_rfl
@[push_cast] theorem zk36 : zok Tryd.prog 36 = true := by kernel_rfl
@[push_cast] theorem bt36 : boolT Tryd.prog 36 = false := by kernel_rfl
@[push_cast] theorem pt36 : ptrT Tryd.prog 36 = false := by kernel_rfl
@[push_cast] theorem lt36 : leavesT Tryd.prog 36 = none := by kernel_rfl
@[push_cast] theorem k37 : kindT Tryd.prog 37 = TK.other := by kernel_rfl
@[push_cast] theorem s37 : szT Tryd.prog 37 = 1 := by kernel_rfl
@[push_cast] theorem a37 : aggO Tryd.prog 37 = some false := by kernel_rfl
@[push_cast] theorem b37 : byT Tryd.prog 37 = 8 := by kernel_rfl
@[push_cast] theorem z37 : zeroT Tryd.prog 37 = AV.nilf := by kernel_rfl
@[push_cast] theorem zk37 : zok Tryd.prog 37 = true := by kernel_rfl
@[push_cast] theorem bt37 : boolT Tryd.prog 37 = false := by kernel_rfl
@[push_cast] theorem pt37 : ptrT Tryd.prog 37 = false := by kernel_rfl
@[push_cast] theorem lt37 : leavesT Tryd.prog 37 = none := by kernel_rfl
@[push_cast] theorem k38 : kindT Tryd.prog 38 = TK.struct := by kernel_rfl
@[push_cast] theorem s38 : szT Tryd.prog 38 = 12 := by kernel_rfl
@[push_cast] theorem a38 : aggO Tryd.prog 38 = some true := by kernel_rfl
@[push_cast] theorem b38 : byT Tryd.prog 38 = 128 := by kernel_rfl
@[push_cast] theorem z38 : zeroT Tryd.prog 38 = AV.agg [AV.str { data := { toList := [] } }, AV.int IntKind.i64 (Int.ofNat 0), AV.int IntKind.i64 (Int.ofNat 0), AV.str { data := { toList := [] } }, AV.int IntKind.i64 (Int.ofNat 0), AV.int IntKind.i64 (Int.ofNat 0), AV.int IntKind.i64 (Int.ofNat 0), AV.int IntKind.i64 (Int.ofNat 0), AV.str { data := { toList := [] } }, AV.int IntKind.i64 (Int.ofNat 0), AV.int IntKind.i64 (Int.ofNat 0), AV.str { data := { toList := [] } }] := by kernel_rfl
@[push_cast] theorem zk38 : zok Tryd.prog 38 = true := by kernel_rfl
@[push_cast] theorem bt38 : boolT Tryd.prog 38 = false := by kernel_rfl
@[push_cast] theorem pt38 : ptrT Tryd.prog 38 = false := by kernel_rfl
@[push_cast] theorem lt38 : leavesT Tryd.prog 38 = some [LK.str, LK.int IntKind.i64, LK.int IntKind.i64, LK.str, LK.int IntKind.i64, LK.int IntKind.i64, LK.int IntKind.i64, LK.int IntKind.i64, LK.str, LK.int IntKind.i64, LK.int IntKind.i64, LK.str] := by kernel_rfl
@[push_cast] theorem fo38 : fieldsOk Tryd.prog 38 = true := by kernel_rfl
@[push_cast] theorem o38_0 : offT Tryd.prog 38 0 = some 0 := by kernel_rfl
@[push_cast] theorem f38_0 : fszT Tryd.prog 38 0 = 1 := by kernel_rfl
@[push_cast] theorem o38_1 : offT Tryd.prog 38 1 = some 1 := by kernel_rfl
@[push_cast] theorem f38_1 : fszT Tryd.prog 38 1 = 3 := by kernel_rfl
@[push_cast] theorem o38_2 : offT Tryd.prog 38 2 = some 4 := by kernel_rfl
@[push_cast] theorem f38_2 : fszT Tryd.prog 38 2 = 1 := by kernel_rfl
@[push_cast] theorem o38_3 : offT Tryd.prog 38 3 = some 5 := by kernel_rfl
@[push_cast] theorem f38_3 : fszT Tryd.prog 38 3 = 1 := by kernel_rfl
@[push_cast] theorem o38_4 : offT Tryd.prog 38 4 = some 6 := by kernel_rfl
@[push_cast] theorem f38_4 : fszT Tryd.prog 38 4 = 3 := by kernel_rfl
@[push_cast] theorem o38_5 : offT Tryd.prog 38 5 = some 9 := by kernel_rfl
@[push_cast] theorem f38_5 : fszT Tryd.prog 38 5 = 3 := by kernel_rfl
@[push_cast] theorem k39 : kindT Tryd.prog 39 = TK.struct := by kernel_rfl
@[push_cast] theorem s39 : szT Tryd.prog 39 = 12 := by kernel_rfl
@[push_cast] theorem a39 : aggO Tryd.prog 39 = some true := by kernel_rfl
@[push_cast] theorem b39 : byT Tryd.prog 39 = 128 := by kernel_rfl
@[push_cast] theorem z39 : zeroT Tryd.prog 39 = AV.agg [AV.str { data := { toList := [] } }, AV.int IntKind.i64 (Int.ofNat 0), AV.int IntKind.i64 (Int.ofNat 0), AV.str { data := { toList := [] } }, AV.int IntKind.i64 (Int.ofNat 0), AV.int IntKind.i64 (Int.ofNat 0), AV.int IntKind.i64 (Int.ofNat 0), AV.int IntKind.i64 (Int.ofNat 0), AV.str { data := { toList := [] } }, AV.int IntKind.i64 (Int.ofNat 0), AV.int IntKind.i64 (Int.ofNat 0), AV.str { data := { toList := [] } }] := by kernel_rfl
@[push_cast] theorem zk39 : zok Tryd.prog 39 = true := by kernel_rfl
@[push_cast] theorem bt39 : boolT Tryd.prog 39 = false := by kernel_rfl
@[push_cast] theorem pt39 : ptrT Tryd.prog 39 = false := by kernel_rfl
@[push_cast] theorem lt39 : leavesT Tryd.prog 39 = some [LK.str, LK.int IntKind.i64, LK.int IntKind.i64, LK.str, LK.int IntKind.i64, LK.int IntKind.i64, LK.int IntKind.i64, LK.int IntKind.i64, LK.str, LK.int IntKind.i64, LK.int IntKind.i64, LK.str] := by kernel_rfl
@[push_cast] theorem fo39 : fieldsOk Tryd.prog 39 = true := by kernel_rfl
@[push_cast] theorem o39_0 : offT Tryd.prog 39 0 = some 0 := by kernel_rfl
@[push_cast] theorem f39_0 : fszT Tryd.prog 39 0 = 1 := by kernel_rfl
@[push_cast] theorem o39_1 : offT Tryd.prog 39 1 = some 1 := by kernel_rfl
@[push_cast] theorem f39_1 : fszT Tryd.prog 39 1 = 3 := by kernel_rfl
@[push_cast] theorem o39_2 : offT Tryd.prog 39 2 = some 4 := by kernel_rfl
@[push_cast] theorem f39_2 : fszT Tryd.prog 39 2 = 1 := by kernel_rfl
@[push_cast] theorem o39_3 : offT Tryd.prog 39 3 = some 5 := by kernel_rfl
@[push_cast] theorem f39_3 : fszT Tryd.prog 39 3 = 1 := by kernel_rfl
@[push_cast] theorem o39_4 : offT Tryd.prog 39 4 = some 6 := by kernel_rfl
@[push_cast] theorem f39_4 : fszT Tryd.prog 39 4 = 3 := by kernel_rfl
@[push_cast] theorem o39_5 : offT Tryd.prog 39 5 = some 9 := by kernel_rfl
@[push_cast] theorem f39_5 : fszT Tryd.prog 39 5 = 3 := by kernel_rfl
@[push_cast] theorem k40 : kindT Tryd.prog 40 = TK.other := by kernel_rfl
@[push_cast] theorem s40 : szT Tryd.prog 40 = 1 := by kernel_rfl
@[push_cast] theorem a40 : aggO Tryd.prog 40 = some false := by kernel_rfl
@[push_cast] theorem b40 : byT Tryd.prog 40 = 8 := by kernel_rfl
@[push_cast] theorem z40 : zeroT Tryd.prog 40 = AV.nilf := by kernel_rfl
@[push_cast] theorem zk40 : zok Tryd.prog 40 = true := by kernel_rfl
@[push_cast] theorem bt40 : boolT Tryd.prog 40 = false := by kernel_rfl
@[push_cast] theorem pt40 : ptrT Tryd.prog 40 = false := by kernel_rfl
@[push_cast] theorem lt40 : leavesT Tryd.prog 40 = none := by kernel_rfl
@[push_cast] theorem k41 : kindT Tryd.prog 41 = TK.other := by kernel_rfl
@[push_cast] theorem s41 : szT Tryd.prog 41 = 1 := by kernel_rfl
@[push_cast] theorem a41 : aggO Tryd.prog 41 = some false := by kernel_rfl
@[push_cast] theorem b41 : byT Tryd.prog 41 = 8 := by kernel_rfl
@[push_cast] theorem z41 : zeroT Tryd.prog 41 = AV.nilf := by kernel_rfl
@[push_cast] theorem zk41 : zok Tryd.prog 41 = true := by kernel_rfl
@[push_cast] theorem bt41 : boolT Tryd.prog 41 = false := by kernel_rfl
@[push_cast] theorem pt41 : ptrT Tryd.prog 41 = false := by kernel_rfl
@[push_cast] theorem lt41 : leavesT Tryd.prog 41 = none := by kernel_rfl
@[push_cast] theorem k42 : kindT Tryd.prog 42 = TK.slice 9 := by kernel_rfl
@[push_cast] theorem s42 : szT Tryd.prog 42 = 1 := by kernel_rfl
@[push_cast] theorem a42 : aggO Tryd.prog 42 = some false := by kernel_rfl
@[push_cast] theorem b42 : byT Tryd.prog 42 = 24 := by kernel_rfl
@[push_cast] theorem z42 : zeroT Tryd.prog 42 = AV.olst 1 [] := by kernel_rfl
@[push_cast] theorem zk42 : zok Tryd.prog 42 = true := by kernel_rfl
@[push_cast] theorem bt42 : boolT Tryd.prog 42 = false := by kernel_rfl
@[push_cast] theorem pt42 : ptrT Tryd.prog 42 = false := by kernel_rfl
@[push_cast] theorem lt42 : leavesT Tryd.prog 42 = none := by kernel_rfl
@[push_cast] theorem k43 : kindT Tryd.prog 43 = TK.other := by kernel_rfl
@[push_cast] theorem s43 : szT Tryd.prog 43 = 1 := by kernel_rfl
@[push_cast] theorem a43 : aggO Tryd.prog 43 = some false := by kernel_rfl
@[push_cast] theorem b43 : byT Tryd.prog 43 = 8 := by kernel_rfl
@[push_cast] theorem z43 : zeroT Tryd.prog 43 = AV.nilf := by kernel_rfl
@[push_cast] theorem zk43 : zok Tryd.prog 43 = true := by kernel_rfl
@[push_cast] theorem bt43 : boolT Tryd.prog 43 = false := by kernel_rfl
@[push_cast] theorem pt43 : ptrT Tryd.prog 43 = false := by kernel_rfl
@[push_cast] theorem lt43 : leavesT Tryd.prog 43 = none := by kernel_rfl
@[push_cast] theorem k44 : kindT Tryd.prog 44 = TK.other := by kernel_rfl
@[push_cast] theorem s44 : szT Tryd.prog 44 = 1 := by kernel_rfl
@[push_cast] theorem a44 : aggO Tryd.prog 44 = some false := by kernel_rfl
@[push_cast] theorem b44 : byT Tryd.prog 44 = 8 := by kernel_rfl
@[push_cast] theorem z44 : zeroT Tryd.prog 44 = AV.nilf := by kernel_rfl
@[push_cast] theorem zk44 : zok Tryd.prog 44 = true := by kernel_rfl
@[push_cast] theorem bt44 : boolT Tryd.prog 44 = false := by kernel_rfl
@[push_cast] theorem pt44 : ptrT Tryd.prog 44 = false := by kernel_rfl
@[push_cast] theorem lt44 : leavesT Tryd.prog 44 = none := by kernel_rfl
@[push_cast] theorem k45 : kindT Tryd.prog 45 = TK.other := by kernel_rfl
@[push_cast] theorem s45 : szT Tryd.prog 45 = 1 := by kernel_rfl
@[push_cast] theorem a45 : aggO Tryd.prog 45 = some false := by kernel_rfl
@[push_cast] theorem b45 : byT Tryd.prog 45 = 8 := by kernel_rfl
@[push_cast] theorem z45 : zeroT Tryd.prog 45 = AV.nilf := by kernel_rfl
@[push_cast] theorem zk45 : zok Tryd.prog 45 = true := by kernel_rfl
@[push_cast] theorem bt45 : boolT Tryd.prog 45 = false := by kernel_rfl
@[push_cast] theorem pt45 : ptrT Tryd.prog 45 = false := by kernel_rfl
@[push_cast] theorem lt45 : leavesT Tryd.prog 45 = none := by kernel_rfl
@[push_cast] theorem k46 : kindT Tryd.prog 46 = TK.other := by kernel_rfl
@[push_cast] theorem s46 : szT Tryd.prog 46 = 1 := by kernel_rfl
@[push_cast] theorem a46 : aggO Tryd.prog 46 = some false := by kernel_rfl
@[push_cast] theorem b46 : byT Tryd.prog 46 = 8 := by kernel_rfl
@[push_cast] theorem z46 : zeroT Tryd.prog 46 = AV.nilf := by kernel_rfl
@[push_cast] theorem zk46 : zok Tryd.prog 46 = true := by kernel_rfl
@[push_cast] theorem bt46 : boolT Tryd.prog 46 = false := by kernel_rfl
@[push_cast] theorem pt46 : ptrT Tryd.prog 46 = false := by kernel_rfl
@[push_cast] theorem lt46 : leavesT Tryd.prog 46 = none := by kernel_rfl
@[push_cast] theorem k47 : kindT Tryd.prog 47 = TK.struct := by kernel_rfl
@[push_cast] theorem s47 : szT Tryd.prog 47 = 3 := by kernel_rfl
@[push_cast] theorem a47 : aggO Tryd.prog 47 = some true := by kernel_rfl
@[push_cast] theorem b47 : byT Tryd.prog 47 = 32 := by kernel_rfl
@[push_cast] theorem z47 : zeroT Tryd.prog 47 = AV.agg [AV.int IntKind.i64 (Int.ofNat 0), AV.int IntKind.i64 (Int.ofNat 0), AV.str { data := { toList := [] } }] := by kernel_rfl
@[push_cast] theorem zk47 : zok Tryd.prog 47 = true := by kernel_rfl
@[push_cast] theorem bt47 : boolT Tryd.prog 47 = false := by kernel_rfl
@[push_cast] theorem pt47 : ptrT Tryd.prog 47 = false := by kernel_rfl
@[push_cast] theorem lt47 : leavesT Tryd.prog 47 = some [LK.int IntKind.i64, LK.int IntKind.i64, LK.str] := by kernel_rfl
@[push_cast] theorem fo47 : fieldsOk Tryd.prog 47 = true := by kernel_rfl
@[push_cast] theorem o47_0 : offT Tryd.prog 47 0 = some 0 := by kernel_rfl
@[push_cast] theorem f47_0 : fszT Tryd.prog 47 0 = 1 := by kernel_rfl
@[push_cast] theorem o47_1 : offT Tryd.prog 47 1 = some 1 := by kernel_rfl
@[push_cast] theorem f47_1 : fszT Tryd.prog 47 1 = 1 := by kernel_rfl
@[push_cast] theorem o47_2 : offT Tryd.prog 47 2 = some 2 := by kernel_rfl
@[push_cast] theorem f47_2 : fszT Tryd.prog 47 2 = 1 := by kernel_rfl
@[push_cast] theorem k48 : kindT Tryd.prog 48 = TK.struct := by kernel_rfl
@[push_cast] theorem s48 : szT Tryd.prog 48 = 3 := by kernel_rfl
@[push_cast] theorem a48 : aggO Tryd.prog 48 = some true := by kernel_rfl
@[push_cast] theorem b48 : byT Tryd.prog 48 = 32 := by kernel_rfl
@[push_cast] theorem z48 : zeroT Tryd.prog 48 = AV.agg [AV.int IntKind.i64 (Int.ofNat 0), AV.int IntKind.i64 (Int.ofNat 0), AV.str { data := { toList := [] } }] := by kernel_rfl
@[push_cast] theorem zk48 : zok Tryd.prog 48 = true := by kernel_rfl
@[push_cast] theorem bt48 : boolT Tryd.prog 48 = false := by kernel_rfl
@[push_cast] theorem pt48 : ptrT Tryd.prog 48 = false := by kernel_rfl
@[push_cast] theorem lt48 : leavesT Tryd.prog 48 = some [LK.int IntKind.i64, LK.int IntKind.i64, LK.str] := by kernel_rfl
@[push_cast] theorem fo48 : fieldsOk Tryd.prog 48 = true := by kernel_rfl
@[push_cast] theorem o48_0 : offT Tryd.prog 48 0 = some 0 := by kernel_rfl
@[push_cast] theorem f48_0 : fszT Tryd.prog 48 0 = 1 := by kernel_rfl
@[push_cast] theorem o48_1 : offT Tryd.prog 48 1 = some 1 := by kernel_rfl
@[push_cast] theorem f48_1 : fszT Tryd.prog 48 1 = 1 := by kernel_rfl
@[push_cast] theorem o48_2 : offT Tryd.prog 48 2 = some 2 := by kernel_rfl
@[push_cast] theorem f48_2 : fszT Tryd.prog 48 2 = 1 := by kernel_rfl
@[push_cast] theorem k49 : kindT Tryd.prog 49 = TK.other := by kernel_rfl
@[push_cast] theorem s49 : szT Tryd.prog 49 = 1 := by kernel_rfl
@[push_cast] theorem a49 : aggO Tryd.prog 49 = some false := by kernel_rfl
@[push_cast] theorem b49 : byT Tryd.prog 49 = 8 := by kernel_rfl
@[push_cast] theorem z49 : zeroT Tryd.prog 49 = AV.nilf := by kernel_rfl
@[push_cast] theorem zk49 : zok Tryd.prog 49 = true := by kernel_rfl
@[push_cast] theorem bt49 : boolT Tryd.prog 49 = false := by kernel_rfl
@[push_cast] theorem pt49 : ptrT Tryd.prog 49 = false := by kernel_rfl
@[push_cast] theorem lt49 : leavesT Tryd.prog 49 = none := by kernel_rfl
@[push_cast] theorem k50 : kindT Tryd.prog 50 = TK.struct := by kernel_rfl
@[push_cast] theorem s50 : szT Tryd.prog 50 = 3 := by kernel_rfl
@[push_cast] theorem a50 : aggO Tryd.prog 50 = some true := by kernel_rfl
@[push_cast] theorem b50 : byT Tryd.prog 50 = 32 := by kernel_rfl
@[push_cast] theorem z50 : zeroT Tryd.prog 50 = AV.agg [AV.int IntKind.i64 (Int.ofNat 0), AV.int IntKind.i64 (Int.ofNat 0), AV.str { data := { toList := [] } }] := by kernel_rfl
@[push_cast] theorem zk50 : zok Tryd.prog 50 = true := by kernel_rfl
@[push_cast] theorem bt50 : boolT Tryd.prog 50 = false := by kernel_rfl
@[push_cast] theorem pt50 : ptrT Tryd.prog 50 = false := by kernel_rfl
@[push_cast] theorem lt50 : leavesT Tryd.prog 50 = some [LK.int IntKind.i64, LK.int IntKind.i64, LK.str] := by kernel_rfl
@[push_cast] theorem fo50 : fieldsOk Tryd.prog 50 = true := by kernel_rfl
@[push_cast] theorem o50_0 : offT Tryd.prog 50 0 = some 0 := by kernel_rfl
@[push_cast] theorem f50_0 : fszT Tryd.prog 50 0 = 1 := by kernel_rfl
@[push_cast] theorem o50_1 : offT Tryd.prog 50 1 = some 1 := by kernel_rfl
@[push_cast] theorem f50_1 : fszT Tryd.prog 50 1 = 1 := by kernel_rfl
@[push_cast] theorem o50_2 : offT Tryd.prog 50 2 = some 2 := by kernel_rfl
@[push_cast] theorem f50_2 : fszT Tryd.prog 50 2 = 1 := by kernel_rfl
@[push_cast] theorem k51 : kindT Tryd.prog 51 = TK.other := by kernel_rfl
@[push_cast] theorem s51 : szT Tryd.prog 51 = 1 := by kernel_rfl
@[push_cast] theorem a51 : aggO Tryd.prog 51 = some false := by kernel_rfl
@[push_cast] theorem b51 : byT Tryd.prog 51 = 8 := by kernel_rfl
@[push_cast] theorem z51 : zeroT Tryd.prog 51 = AV.nilf := by kernel_rfl
@[push_cast] theorem zk51 : zok Tryd.prog 51 = true := by kernel_rfl
@[push_cast] theorem bt51 : boolT Tryd.prog 51 = false := by kernel_rfl
@[push_cast] theorem pt51 : ptrT Tryd.prog 51 = false := by kernel_rfl
@[push_cast] theorem lt51 : leavesT Tryd.prog 51 = none := by kernel_rfl
@[push_cast] theorem k52 : kindT Tryd.prog 52 = TK.other := by kernel_rfl
@[push_cast] theorem s52 : szT Tryd.prog 52 = 1 := by kernel_rfl
@[push_cast] theorem a52 : aggO Tryd.prog 52 = some false := by kernel_rfl
@[push_cast] theorem b52 : byT Tryd.prog 52 = 8 := by kernel_rfl
@[push_cast] theorem z52 : zeroT Tryd.prog 52 = AV.nilf := by kernel_rfl
@[push_cast] theorem zk52 : zok Tryd.prog 52 = true := by kernel_rfl
@[push_cast] theorem bt52 : boolT Tryd.prog 52 = false := by kernel_rfl
@[push_cast] theorem pt52 : ptrT Tryd.prog 52 = false := by kernel_rfl
@[push_cast] theorem lt52 : leavesT Tryd.prog 52 = none := by kernel_rfl
@[push_cast] theorem k53 : kindT Tryd.prog 53 = TK.other := by kernel_rfl
@[push_cast] theorem s53 : szT Tryd.prog 53 = 1 := by kernel_rfl
@[push_cast] theorem a53 : aggO Tryd.prog 53 = some false := by kernel_rfl
@[push_cast] theorem b53 : byT Tryd.prog 53 = 0 := by kernel_rfl
@[push_cast] theorem z53 : zeroT Tryd.prog 53 = AV.undef := by kernel_rfl
@[push_cast] theorem zk53 : zok Tryd.prog 53 = true := by kernel_rfl
@[push_cast] theorem bt53 : boolT Tryd.prog 53 = false := by kernel_rfl
@[push_cast] theorem pt53 : ptrT Tryd.prog 53 = false := by kernel_rfl
@[push_cast] theorem lt53 : leavesT Tryd.prog 53 = none := by kernel_rfl
@[push_cast] theorem k54 : kindT Tryd.prog 54 = TK.other := by kernel_rfl
@[push_cast] theorem s54 : szT Tryd.prog 54 = 1 := by kernel_rfl
@[push_cast] theorem a54 : aggO Tryd.prog 54 = some false := by kernel_rfl
@[push_cast] theorem b54 : byT Tryd.prog 54 = 8 := by kernel_rfl
@[push_cast] theorem z54 : zeroT Tryd.prog 54 = AV.nilf := by kernel_rfl
@[push_cast] theorem zk54 : zok Tryd.prog 54 = true := by kernel_rfl
@[push_cast] theorem bt54 : boolT Tryd.prog 54 = false := by kernel_rfl
@[push_cast] theorem pt54 : ptrT Tryd.prog 54 = false := by kernel_rfl
@[push_cast] theorem lt54 : leavesT Tryd.prog 54 = none := by kernel_rfl
@[push_cast] theorem k55 : kindT Tryd.prog 55 = TK.other := by kernel_rfl
@[push_cast] theorem s55 : szT Tryd.prog 55 = 1 := by kernel_rfl
@[push_cast] theorem a55 : aggO Tryd.prog 55 = some false := by kernel_rfl
@[push_cast] theorem b55 : byT Tryd.prog 55 = 8 := by kernel_rfl
@[push_cast] theorem z55 : zeroT Tryd.prog 55 = AV.nilf := by kernel_rfl
@[push_cast] theorem zk55 : zok Tryd.prog 55 = true := by kernel_rfl
@[push_cast] theorem bt55 : boolT Tryd.prog 55 = false := by kernel_rfl
@[push_cast] theorem pt55 : ptrT Tryd.prog 55 = false := by kernel_rfl
@[push_cast] theorem lt55 : leavesT Tryd.prog 55 = none := by kernel_rfl
@[push_cast] theorem k56 : kindT Tryd.prog 56 = TK.other := by kernel_rfl
@[push_cast] theorem s56 : szT Tryd.prog 56 = 1 := by kernel_rfl
@[push_cast] theorem a56 : aggO Tryd.prog 56 = some false := by kernel_rfl
@[push_cast] theorem b56 : byT Tryd.prog 56 = 8 := by kernel_rfl
@[push_cast] theorem z56 : zeroT Tryd.prog 56 = AV.nilf := by kernel_rfl
@[push_cast] theorem zk56 : zok Tryd.prog 56 = true := by kernel_rfl
@[push_cast] theorem bt56 : boolT Tryd.prog 56 = false := by kernel_rfl
@[push_cast] theorem pt56 : ptrT Tryd.prog 56 = false := by kernel_rfl
@[push_cast] theorem lt56 : leavesT Tryd.prog 56 = none := by kernel_rfl
@[push_cast] theorem k57 : kindT Tryd.prog 57 = TK.ptr 60 := by kernel_rfl
@[push_cast] theorem s57 : szT Tryd.prog 57 = 1 := by kernel_rfl
@[push_cast] theorem a57 : aggO Tryd.prog 57 = some false := by kernel_rfl
@[push_cast] theorem b57 : byT Tryd.prog 57 = 8 := by kernel_rfl
@[push_cast] theorem z57 : zeroT Tryd.prog 57 = AV.nilp := by kernel_rfl
@[push_cast] theorem zk57 : zok Tryd.prog 57 = true := by kernel_rfl
@[push_cast] theorem bt57 : boolT Tryd.prog 57 = false := by kernel_rfl
@[push_cast] theorem pt57 : ptrT Tryd.prog 57 = true := by kernel_rfl
@[push_cast] theorem lt57 : leavesT Tryd.prog 57 = none := by kernel_rfl
@[push_cast] theorem k58 : kindT Tryd.prog 58 = TK.slice 33 := by kernel_rfl
@[push_cast] theorem s58 : szT Tryd.prog 58 = 1 := by kernel_rfl
@[push_cast] theorem a58 : aggO Tryd.prog 58 = some false := by kernel_rfl
@[push_cast] theorem b58 : byT Tryd.prog 58 = 24 := by kernel_rfl
@[push_cast] theorem z58 : zeroT Tryd.prog 58 = AV.olst 3 [] := by kernel_rfl
@[push_cast] theorem zk58 : zok Tryd.prog 58 = true := by kernel_rfl
@[push_cast] theorem bt58 : boolT Tryd.prog 58 = false := by kernel_rfl
@[push_cast] theorem pt58 : ptrT Tryd.prog 58 = false := by kernel_rfl
@[push_cast] theorem lt58 : leavesT Tryd.prog 58 = none := by kernel_rfl
@[push_cast] theorem k59 : kindT Tryd.prog 59 = TK.struct := by kernel_rfl
@[push_cast] theorem s59 : szT Tryd.prog 59 = 14 := by kernel_rfl
@[push_cast] theorem a59 : aggO Tryd.prog 59 = some true := by kernel_rfl
@[push_cast] theorem b59 : byT Tryd.prog 59 = 160 := by kernel_rfl
@[push_cast] theorem z59 : zeroT Tryd.prog 59 = AV.agg [AV.str { data := { toList := [] } }, AV.int IntKind.i64 (Int.ofNat 0), AV.int IntKind.i64 (Int.ofNat 0), AV.str { data := { toList := [] } }, AV.int IntKind.i64 (Int.ofNat 0), AV.int IntKind.i64 (Int.ofNat 0), AV.int IntKind.i64 (Int.ofNat 0), AV.int IntKind.i64 (Int.ofNat 0), AV.str { data := { toList := [] } }, AV.int IntKind.i64 (Int.ofNat 0), AV.int IntKind.i64 (Int.ofNat 0), AV.str { data := { toList := [] } }, AV.olst 3 [], AV.int IntKind.i64 (Int.ofNat 0)] := by kernel_rfl
@[push_cast] theorem zk59 : zok Tryd.prog 59 = true := by kernel_rfl
@[push_cast] theorem bt59 : boolT Tryd.prog 59 = false := by kernel_rfl
@[push_cast] theorem pt59 : ptrT Tryd.prog 59 = false := by kernel_rfl
@[push_cast] theorem lt59 : leavesT Tryd.prog 59 = none := by kernel_rfl
@[push_cast] theorem fo59 : fieldsOk Tryd.prog 59 = true := by kernel_rfl
@[push_cast] theorem o59_0 : offT Tryd.prog 59 0 = some 0 := by kernel_rfl
@[push_cast] theorem f59_0 : fszT Tryd.prog 59 0 = 12 := by kernel_rfl
@[push_cast] theorem o59_1 : offT Tryd.prog 59 1 = some 12 := by kernel_rfl
@[push_cast] theorem f59_1 : fszT Tryd.prog 59 1 = 1 := by kernel_rfl
@[push_cast] theorem o59_2 : offT Tryd.prog 59 2 = some 13 := by kernel_rfl
@[push_cast] theorem f59_2 : fszT Tryd.prog 59 2 = 1 := by kernel_rfl
@[push_cast] theorem k60 : kindT Tryd.prog 60 = TK.struct := by kernel_rfl
@[push_cast] theorem s60 : szT Tryd.prog 60 = 14 := by kernel_rfl
@[push_cast] theorem a60 : aggO Tryd.prog 60 = some true := by kernel_rfl
@[push_cast] theorem b60 : byT Tryd.prog 60 = 160 := by kernel_rfl
@[push_cast] theorem z60 : zeroT Tryd.prog 60 = AV.agg [AV.str { data := { toList := [] } }, AV.int IntKind.i64 (Int.ofNat 0), AV.int IntKind.i64 (Int.ofNat 0), AV.str { data := { toList := [] } }, AV.int IntKind.i64 (Int.ofNat 0), AV.int IntKind.i64 (Int.ofNat 0), AV.int IntKind.i64 (Int.ofNat 0), AV.int IntKind.i64 (Int.ofNat 0), AV.str { data := { toList := [] } }, AV.int IntKind.i64 (Int.ofNat 0), AV.int IntKind.i64 (Int.ofNat 0), AV.str { data := { toList := [] } }, AV.olst 3 [], AV.int IntKind.i64 (Int.ofNat 0)] := by kernel_rfl
@[push_cast] theorem zk60 : zok Tryd.prog 60 = true := by kernel_rfl
@[push_cast] theorem bt60 : boolT Tryd.prog 60 = false := by kernel_rfl
@[push_cast] theorem pt60 : ptrT Tryd.prog 60 = false := by kernel_rfl
@[push_cast] theorem lt60 : leavesT Tryd.prog 60 = none := by kernel_rfl
@[push_cast] theorem fo60 : fieldsOk Tryd.prog 60 = true := by kernel_rfl
@[push_cast] theorem o60_0 : offT Tryd.prog 60 0 = some 0 := by kernel_rfl
@[push_cast] theorem f60_0 : fszT Tryd.prog 60 0 = 12 := by kernel_rfl
@[push_cast] theorem o60_1 : offT Tryd.prog 60 1 = some 12 := by kernel_rfl
@[push_cast] theorem f60_1 : fszT Tryd.prog 60 1 = 1 := by kernel_rfl
@[push_cast] theorem o60_2 : offT Tryd.prog 60 2 = some 13 := by kernel_rfl
@[push_cast] theorem f60_2 : fszT Tryd.prog 60 2 = 1 := by kernel_rfl
@[push_cast] theorem k61 : kindT Tryd.prog 61 = TK.other := by kernel_rfl
@[push_cast] theorem s61 : szT Tryd.prog 61 = 1 := by kernel_rfl
@[push_cast] theorem a61 : aggO Tryd.prog 61 = some false := by kernel_rfl
@[push_cast] theorem b61 : byT Tryd.prog 61 = 8 := by kernel_rfl
@[push_cast] theorem z61 : zeroT Tryd.prog 61 = AV.nilf := by kernel_rfl
@[push_cast] theorem zk61 : zok Tryd.prog 61 = true := by kernel_rfl
@[push_cast] theorem bt61 : boolT Tryd.prog 61 = false := by kernel_rfl
@[push_cast] theorem pt61 : ptrT Tryd.prog 61 = false := by kernel_rfl
@[push_cast] theorem lt61 : leavesT Tryd.prog 61 = none := by kernel_rfl
@[push_cast] theorem k62 : kindT Tryd.prog 62 = TK.other := by kernel_rfl
@[push_cast] theorem s62 : szT Tryd.prog 62 = 1 := by kernel_rfl
@[push_cast] theorem a62 : aggO Tryd.prog 62 = some false := by kernel_rfl
@[push_cast] theorem b62 : byT Tryd.prog 62 = 8 := by kernel_rfl
@[push_cast] theorem z62 : zeroT Tryd.prog 62 = AV.nilf := by kernel_rfl
@[push_cast] theorem zk62 : zok Tryd.prog 62 = true := by kernel_rfl
@[push_cast] theorem bt62 : boolT Tryd.prog 62 = false := by kernel_rfl
@[push_cast] theorem pt62 : ptrT Tryd.prog 62 = false := by kernel_rfl
@[push_cast] theorem lt62 : leavesT Tryd.prog 62 = none := by kernel_rfl
@[push_cast] theorem k63 : kindT Tryd.prog 63 = TK.slice 36 := by kernel_rfl
@[push_cast] theorem s63 : szT Tryd.prog 63 = 1 := by kernel_rfl
@[push_cast] theorem a63 : aggO Tryd.prog 63 = some false := by kernel_rfl
@[push_cast] theorem b63 : byT Tryd.prog 63 = 24 := by kernel_rfl
@[push_cast] theorem z63 : zeroT Tryd.prog 63 = AV.olst 1 [] := by kernel_rfl
@[push_cast] theorem zk63 : zok Tryd.prog 63 = true := by kernel_rfl
@[push_cast] theorem bt63 : boolT Tryd.prog 63 = false := by kernel_rfl
@[push_cast] theorem pt63 : ptrT Tryd.prog 63 = false := by kernel_rfl
@[push_cast] theorem lt63 : leavesT Tryd.prog 63 = none := by kernel_rfl
@[push_cast] theorem k64 : kindT Tryd.prog 64 = TK.other := by kernel_rfl
@[push_cast] theorem s64 : szT Tryd.prog 64 = 1 := by kernel_rfl
@[push_cast] theorem a64 : aggO Tryd.prog 64 = some false := by kernel_rfl
@[push_cast] theorem b64 : byT Tryd.prog 64 = 8 := by kernel_rfl
@[push_cast] theorem z64 : zeroT Tryd.prog 64 = AV.nilf := by kernel_rfl
@[push_cast] theorem zk64 : zok Tryd.prog 64 = true := by kernel_rfl
@[push_cast] theorem bt64 : boolT Tryd.prog 64 = false := by kernel_rfl
@[push_cast] theorem pt64 : ptrT Tryd.prog 64 = false := by kernel_rfl
@[push_cast] theorem lt64 : leavesT Tryd.prog 64 = none := by kernel_rfl
@[push_cast] theorem k65 : kindT Tryd.prog 65 = TK.other := by kernel_rfl
@[push_cast] theorem s65 : szT Tryd.prog 65 = 1 := by kernel_rfl
@[push_cast] theorem a65 : aggO Tryd.prog 65 = some false := by kernel_rfl
@[push_cast] theorem b65 : byT Tryd.prog 65 = 0 := by kernel_rfl
@[push_cast] theorem z65 : zeroT Tryd.prog 65 = AV.undef := by kernel_rfl
@[push_cast] theorem zk65 : zok Tryd.prog 65 = true := by kernel_rfl
@[push_cast] theorem bt65 : boolT Tryd.prog 65 = false := by kernel_rfl
@[push_cast] theorem pt65 : ptrT Tryd.prog 65 = false := by kernel_rfl
@[push_cast] theorem lt65 : leavesT Tryd.prog 65 = none := by kernel_rfl
@[push_cast] theorem k66 : kindT Tryd.prog 66 = TK.other := by kernel_rfl
@[push_cast] theorem s66 : szT Tryd.prog 66 = 1 := by kernel_rfl
@[push_cast] theorem a66 : aggO Tryd.prog 66 = some false := by kernel_rfl
@[push_cast] theorem b66 : byT Tryd.prog 66 = 8 := by kernel_rfl
@[push_cast] theorem z66 : zeroT Tryd.prog 66 = AV.nilf := by kernel_rfl
@[push_cast] theorem zk66 : zok Tryd.prog 66 = true := by kernel_rfl
@[push_cast] theorem bt66 : boolT Tryd.prog 66 = false := by kernel_rfl
@[push_cast] theorem pt66 : ptrT Tryd.prog 66 = false := by kernel_rfl
@[push_cast] theorem lt66 : leavesT Tryd.prog 66 = none := by kernel_rfl
@[push_cast] theorem k67 : kindT Tryd.prog 67 = TK.other := by kernel_rfl
@[push_cast] theorem s67 : szT Tryd.prog 67 = 1 := by kernel_rfl
@[push_cast] theorem a67 : aggO Tryd.prog 67 = some false := by kernel_rfl
@[push_cast] theorem b67 : byT Tryd.prog 67 = 0 := by kernel_rfl
@[push_cast] theorem z67 : zeroT Tryd.prog 67 = AV.undef := by kernel_rfl
@[push_cast] theorem zk67 : zok Tryd.prog 67 = true := by kernel_rfl
@[push_cast] theorem bt67 : boolT Tryd.prog 67 = false := by kernel_rfl
@[push_cast] theorem pt67 : ptrT Tryd.prog 67 = false := by kernel_rfl
@[push_cast] theorem lt67 : leavesT Tryd.prog 67 = none := by kernel_rfl
@[push_cast] theorem k68 : kindT Tryd.prog 68 = TK.other := by kernel_rfl
@[push_cast] theorem s68 : szT Tryd.prog 68 = 1 := by kernel_rfl
@[push_cast] theorem a68 : aggO Tryd.prog 68 = some false := by kernel_rfl
@[push_cast] theorem b68 : byT Tryd.prog 68 = 8 := by kernel_rfl
@[push_cast] theorem z68 : zeroT Tryd.prog 68 = AV.nilf := by kernel_rfl
@[push_cast] theorem zk68 : zok Tryd.prog 68 = true := by kernel_rfl
@[push_cast] theorem bt68 : boolT Tryd.prog 68 = false := by kernel_rfl
@[push_cast] theorem pt68 : ptrT Tryd.prog 68 = false := by kernel_rfl
@[push_cast] theorem lt68 : leavesT Tryd.prog 68 = none := by kernel_rfl
@[push_cast] theorem k69 : kindT Tryd.prog 69 = TK.other := by kernel_rfl
@[push_cast] theorem s69 : szT Tryd.prog 69 = 1 := by kernel_rfl
@[push_cast] theorem a69 : aggO Tryd.prog 69 = some false := by kernel_rfl
@[push_cast] theorem b69 : byT Tryd.prog 69 = 8 := by kernel_rfl
@[push_cast] theorem z69 : zeroT Tryd.prog 69 = AV.nilf := by kernel_rfl
@[push_cast] theorem zk69 : zok Tryd.prog 69 = true := by kernel_rfl
@[push_cast] theorem bt69 : boolT Tryd.prog 69 = false := by kernel_rfl
@[push_cast] theorem pt69 : ptrT Tryd.prog 69 = false := by kernel_rfl
@[push_cast] theorem lt69 : leavesT Tryd.prog 69 = none := by kernel_rfl
@[push_cast] theorem k70 : kindT Tryd.prog 70 = TK.other := by kernel_rfl
@[push_cast] theorem s70 : szT Tryd.prog 70 = 1 := by kernel_rfl
@[push_cast] theorem a70 : aggO Tryd.prog 70 = some false := by kernel_rfl
@[push_cast] theorem b70 : byT Tryd.prog 70 = 8 := by kernel_rfl
@[push_cast] theorem z70 : zeroT Tryd.prog 70 = AV.nilf := by kernel_rfl
@[push_cast] theorem zk70 : zok Tryd.prog 70 = true := by kernel_rfl
@[push_cast] theorem bt70 : boolT Tryd.prog 70 = false := by kernel_rfl
@[push_cast] theorem pt70 : ptrT Tryd.prog 70 = false := by kernel_rfl
@[push_cast] theorem lt70 : leavesT Tryd.prog 70 = none := by kernel_rfl
@[push_cast] theorem k71 : kindT Tryd.prog 71 = TK.other := by kernel_rfl
@[push_cast] theorem s71 : szT Tryd.prog 71 = 1 := by kernel_rfl
@[push_cast] theorem a71 : aggO Tryd.prog 71 = some false := by kernel_rfl
@[push_cast] theorem b71 : byT Tryd.prog 71 = 8 := by kernel_rfl
@[push_cast] theorem z71 : zeroT Tryd.prog 71 = AV.nilf := by kernel_rfl
@[push_cast] theorem zk71 : zok Tryd.prog 71 = true := by kernel_rfl
@[push_cast] theorem bt71 : boolT Tryd.prog 71 = false := by kernel_rfl
@[push_cast] theorem pt71 : ptrT Tryd.prog 71 = false := by kernel_rfl
@[push_cast] theorem lt71 : leavesT Tryd.prog 71 = none := by kernel_rfl
@[push_cast] theorem k72 : kindT Tryd.prog 72 = TK.other := by kernel_rfl
@[push_cast] theorem s72 : szT Tryd.prog 72 = 1 := by kernel_rfl
@[push_cast] theorem a72 : aggO Tryd.prog 72 = some false := by kernel_rfl
@[push_cast] theorem b72 : byT Tryd.prog 72 = 0 := by kernel_rfl
@[push_cast] theorem z72 : zeroT Tryd.prog 72 = AV.undef := by kernel_rfl
@[push_cast] theorem zk72 : zok Tryd.prog 72 = true := by kernel_rfl
@[push_cast] theorem bt72 : boolT Tryd.prog 72 = false := by kernel_rfl
@[push_cast] theorem pt72 : ptrT Tryd.prog 72 = false := by kernel_rfl
@[push_cast] theorem lt72 : leavesT Tryd.prog 72 = none := by kernel_rfl
@[push_cast] theorem k73 : kindT Tryd.prog 73 = TK.other := by kernel_rfl
@[push_cast] theorem s73 : szT Tryd.prog 73 = 1 := by kernel_rfl
@[push_cast] theorem a73 : aggO Tryd.prog 73 = some false := by kernel_rfl
@[push_cast] theorem b73 : byT Tryd.prog 73 = 8 := by kernel_rfl
@[push_cast] theorem z73 : zeroT Tryd.prog 73 = AV.nilf := by kernel_rfl
@[push_cast] theorem zk73 : zok Tryd.prog 73 = true := by kernel_rfl
@[push_cast] theorem bt73 : boolT Tryd.prog 73 = false := by kernel_rfl
@[push_cast] theorem pt73 : ptrT Tryd.prog 73 = false := by kernel_rfl
@[push_cast] theorem lt73 : leavesT Tryd.prog 73 = none := by kernel_rfl
@[push_cast] theorem k74 : kindT Tryd.prog 74 = TK.other := by kernel_rfl
@[push_cast] theorem s74 : szT Tryd.prog 74 = 1 := by kernel_rfl
@[push_cast] theorem a74 : aggO Tryd.prog 74 = some false := by kernel_rfl
@[push_cast] theorem b74 : byT Tryd.prog 74 = 8 := by kernel_rfl
@[push_cast] theorem z74 : zeroT Tryd.prog 74 = AV.nilf := by kernel_rfl
@[push_cast] theorem zk74 : zok Tryd.prog 74 = true := by kernel_rfl
@[push_cast] theorem bt74 : boolT Tryd.prog 74 = false := by kernel_rfl
@[push_cast] theorem pt74 : ptrT Tryd.prog 74 = false := by kernel_rfl
@[push_cast] theorem lt74 : leavesT Tryd.prog 74 = none := by kernel_rfl
@[push_cast] theorem k75 : kindT Tryd.prog 75 = TK.slice 5 := by kernel_rfl
@[push_cast] theorem s75 : szT Tryd.prog 75 = 1 := by kernel_rfl
@[push_cast] theorem a75 : aggO Tryd.prog 75 = some false := by kernel_rfl
@[push_cast] theorem b75 : byT Tryd.prog 75 = 24 := by kernel_rfl
@[push_cast] theorem z75 : zeroT Tryd.prog 75 = AV.olst 1 [] := by kernel_rfl
@[push_cast] theorem zk75 : zok Tryd.prog 75 = true := by kernel_rfl
@[push_cast] theorem bt75 : boolT Tryd.prog 75 = false := by kernel_rfl
@[push_cast] theorem pt75 : ptrT Tryd.prog 75 = false := by kernel_rfl
@[push_cast] theorem lt75 : leavesT Tryd.prog 75 = none := by kernel_rfl
@[push_cast] theorem k76 : kindT Tryd.prog 76 = TK.other := by kernel_rfl
@[push_cast] theorem s76 : szT Tryd.prog 76 = 1 := by kernel_rfl
@[push_cast] theorem a76 : aggO Tryd.prog 76 = some false := by kernel_rfl
@[push_cast] theorem b76 : byT Tryd.prog 76 = 0 := by kernel_rfl
@[push_cast] theorem z76 : zeroT Tryd.prog 76 = AV.undef := by kernel_rfl
@[push_cast] theorem zk76 : zok Tryd.prog 76 = true := by kernel_rfl
@[push_cast] theorem bt76 : boolT Tryd.prog 76 = false := by kernel_rfl
@[push_cast] theorem pt76 : ptrT Tryd.prog 76 = false := by kernel_rfl
@[push_cast] theorem lt76 : leavesT Tryd.prog 76 = none := by kernel_rfl
@[push_cast] theorem k77 : kindT Tryd.prog 77 = TK.other := by kernel_rfl
@[push_cast] theorem s77 : szT Tryd.prog 77 = 1 := by kernel_rfl
@[push_cast] theorem a77 : aggO Tryd.prog 77 = some false := by kernel_rfl
@[push_cast] theorem b77 : byT Tryd.prog 77 = 8 := by kernel_rfl
@[push_cast] theorem z77 : zeroT Tryd.prog 77 = AV.nilf := by kernel_rfl
@[push_cast] theorem zk77 : zok Tryd.prog 77 = true := by kernel_rfl
@[push_cast] theorem bt77 : boolT Tryd.prog 77 = false := by kernel_rfl
@[push_cast] theorem pt77 : ptrT Tryd.prog 77 = false := by kernel_rfl
@[push_cast] theorem lt77 : leavesT Tryd.prog 77 = none := by kernel_rfl
@[push_cast] theorem k78 : kindT Tryd.prog 78 = TK.other := by kernel_rfl
@[push_cast] theorem s78 : szT Tryd.prog 78 = 1 := by kernel_rfl
@[push_cast] theorem a78 : aggO Tryd.prog 78 = some false := by kernel_rfl
@[push_cast] theorem b78 : byT Tryd.prog 78 = 0 := by kernel_rfl
@[push_cast] theorem z78 : zeroT Tryd.prog 78 = AV.undef := by kernel_rfl
@[push_cast] theorem zk78 : zok Tryd.prog 78 = true := by kernel_rfl
@[push_cast] theorem bt78 : boolT Tryd.prog 78 = false := by kernel_rfl
@[push_cast] theorem pt78 : ptrT Tryd.prog 78 = false := by kernel_rfl
@[push_cast] theorem lt78 : leavesT Tryd.prog 78 = none := by kernel_rfl
@[push_cast] theorem k79 : kindT Tryd.prog 79 = TK.other := by kernel_rfl
@[push_cast] theorem s79 : szT Tryd.prog 79 = 1 := by kernel_rfl
@[push_cast] theorem a79 : aggO Tryd.prog 79 = some false := by kernel_rfl
@[push_cast] theorem b79 : byT Tryd.prog 79 = 8 := by kernel_rfl
@[push_cast] theorem z79 : zeroT Tryd.prog 79 = AV.nilf := by kernel_rfl
@[push_cast] theorem zk79 : zok Tryd.prog 79 = true := by kernel_rfl
@[push_cast] theorem bt79 : boolT Tryd.prog 79 = false := by kernel_rfl
@[push_cast] theorem pt79 : ptrT Tryd.prog 79 = false := by kernel_rfl
@[push_cast] theorem lt79 : leavesT Tryd.prog 79 = none := by kernel_rfl
@[push_cast] theorem k80 : kindT Tryd.prog 80 = TK.other := by kernel_rfl
@[push_cast] theorem s80 : szT Tryd.prog 80 = 1 := by kernel_rfl
@[push_cast] theorem a80 : aggO Tryd.prog 80 = some false := by kernel_rfl
@[push_cast] theorem b80 : byT Tryd.prog 80 = 0 := by kernel_rfl
@[push_cast] theorem z80 : zeroT Tryd.prog 80 = AV.undef := by kernel_rfl
@[push_cast] theorem zk80 : zok Tryd.prog 80 = true := by kernel_rfl
@[push_cast] theorem bt80 : boolT Tryd.prog 80 = false := by kernel_rfl
@[push_cast] theorem pt80 : ptrT Tryd.prog 80 = false := by kernel_rfl
@[push_cast] theorem lt80 : leavesT Tryd.prog 80 = none := by kernel_rfl
@[push_cast] theorem k81 : kindT Tryd.prog 81 = TK.other := by kernel_rfl
@[push_cast] theorem s81 : szT Tryd.prog 81 = 1 := by kernel_rfl
@[push_cast] theorem a81 : aggO Tryd.prog 81 = some false := by kernel_rfl
@[push_cast] theorem b81 : byT Tryd.prog 81 = 8 := by kernel_rfl
@[push_cast] theorem z81 : zeroT Tryd.prog 81 = AV.nilf := by kernel_rfl
@[push_cast] theorem zk81 : zok Tryd.prog 81 = true := by kernel_rfl
@[push_cast] theorem bt81 : boolT Tryd.prog 81 = false := by kernel_rfl
@[push_cast] theorem pt81 : ptrT Tryd.prog 81 = false := by kernel_rfl
@[push_cast] theorem lt81 : leavesT Tryd.prog 81 = none := by kernel_rfl
@[push_cast] theorem k82 : kindT Tryd.prog 82 = TK.other := by kernel_rfl
@[push_cast] theorem s82 : szT Tryd.prog 82 = 1 := by kernel_rfl
@[push_cast] theorem a82 : aggO Tryd.prog 82 = some false := by kernel_rfl
@[push_cast] theorem b82 : byT Tryd.prog 82 = 8 := by kernel_rfl
@[push_cast] theorem z82 : zeroT Tryd.prog 82 = AV.nilf := by kernel_rfl
@[push_cast] theorem zk82 : zok Tryd.prog 82 = true := by kernel_rfl
@[push_cast] theorem bt82 : boolT Tryd.prog 82 = false := by kernel_rfl
@[push_cast] theorem pt82 : ptrT Tryd.prog 82 = false := by kernel_rfl
@[push_cast] theorem lt82 : leavesT Tryd.prog 82 = none := by kernel_rfl
@[push_cast] theorem k83 : kindT Tryd.prog 83 = TK.ptr 85 := by kernel_rfl
@[push_cast] theorem s83 : szT Tryd.prog 83 = 1 := by kernel_rfl
@[push_cast] theorem a83 : aggO Tryd.prog 83 = some false := by kernel_rfl
@[push_cast] theorem b83 : byT Tryd.prog 83 = 8 := by kernel_rfl
@[push_cast] theorem z83 : zeroT Tryd.prog 83 = AV.nilp := by kernel_rfl
@[push_cast] theorem zk83 : zok Tryd.prog 83 = true := by kernel_rfl
@[push_cast] theorem bt83 : boolT Tryd.prog 83 = false := by kernel_rfl
@[push_cast] theorem pt83 : ptrT Tryd.prog 83 = true := by kernel_rfl
@[push_cast] theorem lt83 : leavesT Tryd.prog 83 = none := by kernel_rfl
@[push_cast] theorem k84 : kindT Tryd.prog 84 = TK.struct := by kernel_rfl
@[push_cast] theorem s84 : szT Tryd.prog 84 = 2 := by kernel_rfl
@[push_cast] theorem a84 : aggO Tryd.prog 84 = some true := by kernel_rfl
@[push_cast] theorem b84 : byT Tryd.prog 84 = 32 := by kernel_rfl
@[push_cast] theorem z84 : zeroT Tryd.prog 84 = AV.agg [AV.nilp, AV.olst 1 []] := by kernel_rfl
@[push_cast] theorem zk84 : zok Tryd.prog 84 = true := by kernel_rfl
@[push_cast] theorem bt84 : boolT Tryd.prog 84 = false := by kernel_rfl
@[push_cast] theorem pt84 : ptrT Tryd.prog 84 = false := by kernel_rfl
@[push_cast] theorem lt84 : leavesT Tryd.prog 84 = none := by kernel_rfl
@[push_cast] theorem fo84 : fieldsOk Tryd.prog 84 = true := by kernel_rfl
@[push_cast] theorem o84_0 : offT Tryd.prog 84 0 = some 0 := by kernel_rfl
@[push_cast] theorem f84_0 : fszT Tryd.prog 84 0 = 1 := by kernel_rfl
@[push_cast] theorem o84_1 : offT Tryd.prog 84 1 = some 1 := by kernel_rfl
@[push_cast] theorem f84_1 : fszT Tryd.prog 84 1 = 1 := by kernel_rfl
@[push_cast] theorem k85 : kindT Tryd.prog 85 = TK.struct := by kernel_rfl
@[push_cast] theorem s85 : szT Tryd.prog 85 = 2 := by kernel_rfl
@[push_cast] theorem a85 : aggO Tryd.prog 85 = some true := by kernel_rfl
@[push_cast] theorem b85 : byT Tryd.prog 85 = 32 := by kernel_rfl
@[push_cast] theorem z85 : zeroT Tryd.prog 85 = AV.agg [AV.nilp, AV.olst 1 []] := by kernel_rfl
@[push_cast] theorem zk85 : zok Tryd.prog 85 = true := by kernel_rfl
@[push_cast] theorem bt85 : boolT Tryd.prog 85 = false := by kernel_rfl
@[push_cast] theorem pt85 : ptrT Tryd.prog 85 = false := by kernel_rfl
@[push_cast] theorem lt85 : leavesT Tryd.prog 85 = none := by kernel_rfl
@[push_cast] theorem fo85 : fieldsOk Tryd.prog 85 = true := by kernel_rfl
@[push_cast] theorem o85_0 : offT Tryd.prog 85 0 = some 0 := by kernel_rfl
@[push_cast] theorem f85_0 : fszT Tryd.prog 85 0 = 1 := by kernel_rfl
@[push_cast] theorem o85_1 : offT Tryd.prog 85 1 = some 1 := by kernel_rfl
@[push_cast] theorem f85_1 : fszT Tryd.prog 85 1 = 1 := by kernel_rfl
@[push_cast] theorem k86 : kindT Tryd.prog 86 = TK.other := by kernel_rfl
@[push_cast] theorem s86 : szT Tryd.prog 86 = 1 := by kernel_rfl
@[push_cast] theorem a86 : aggO Tryd.prog 86 = some false := by kernel_rfl
@[push_cast] theorem b86 : byT Tryd.prog 86 = 8 := by kernel_rfl
@[push_cast] theorem z86 : zeroT Tryd.prog 86 = AV.nilf := by kernel_rfl
@[push_cast] theorem zk86 : zok Tryd.prog 86 = true := by kernel_rfl
@[push_cast] theorem bt86 : boolT Tryd.prog 86 = false := by kernel_rfl
@[push_cast] theorem pt86 : ptrT Tryd.prog 86 = false := by kernel_rfl
@[push_cast] theorem lt86 : leavesT Tryd.prog 86 = none := by kernel_rfl
@[push_cast] theorem k87 : kindT Tryd.prog 87 = TK.other := by kernel_rfl
@[push_cast] theorem s87 : szT Tryd.prog 87 = 1 := by kernel_rfl
@[push_cast] theorem a87 : aggO Tryd.prog 87 = some false := by kernel_rfl
@[push_cast] theorem b87 : byT Tryd.prog 87 = 16 := by kernel_rfl
@[push_cast] theorem z87 : zeroT Tryd.prog 87 = AV.nili := by kernel_rfl
@[push_cast] theorem zk87 : zok Tryd.prog 87 = true := by kernel_rfl
@[push_cast] theorem bt87 : boolT Tryd.prog 87 = false := by kernel_rfl
@[push_cast] theorem pt87 : ptrT Tryd.prog 87 = false := by kernel_rfl
@[push_cast] theorem lt87 : leavesT Tryd.prog 87 = none := by kernel_rfl
@[push_cast] theorem k88 : kindT Tryd.prog 88 = TK.other := by kernel_rfl
@[push_cast] theorem s88 : szT Tryd.prog 88 = 1 := by kernel_rfl
@[push_cast] theorem a88 : aggO Tryd.prog 88 = some false := by kernel_rfl
@[push_cast] theorem b88 : byT Tryd.prog 88 = 16 := by kernel_rfl
@[push_cast] theorem z88 : zeroT Tryd.prog 88 = AV.nili := by kernel_rfl
@[push_cast] theorem zk88 : zok Tryd.prog 88 = true := by kernel_rfl
@[push_cast] theorem bt88 : boolT Tryd.prog 88 = false := by kernel_rfl
@[push_cast] theorem pt88 : ptrT Tryd.prog 88 = false := by kernel_rfl
@[push_cast] theorem lt88 : leavesT Tryd.prog 88 = none := by kernel_rfl
@[push_cast] theorem k89 : kindT Tryd.prog 89 = TK.other := by kernel_rfl
@[push_cast] theorem s89 : szT Tryd.prog 89 = 1 := by kernel_rfl
@[push_cast] theorem a89 : aggO Tryd.prog 89 = some false := by kernel_rfl
@[push_cast] theorem b89 : byT Tryd.prog 89 = 0 := by kernel_rfl
@[push_cast] theorem z89 : zeroT Tryd.prog 89 = AV.undef := by kernel_rfl
@[push_cast] theorem zk89 : zok Tryd.prog 89 = true := by kernel_rfl
@[push_cast] theorem bt89 : boolT Tryd.prog 89 = false := by kernel_rfl
@[push_cast] theorem pt89 : ptrT Tryd.prog 89 = false := by kernel_rfl
@[push_cast] theorem lt89 : leavesT Tryd.prog 89 = none := by kernel_rfl
end Go.Ev

set_option linter.unusedVariables false
set_option linter.unusedSimpArgs false
namespace Go.Ev
set_option maxRecDepth 100000
set_option maxHeartbeats 0
attribute [push_cast] List.take_length List.length_append Nat.sub_zero Nat.zero_add Nat.add_zero Nat.le_refl Int.zero_add decide_true decide_false ite_self decide_eq_true_eq Int.ofNat_inj Int.ofNat_le gt_iff_lt ge_iff_le IntWalk.i64_in IntWalk.u8_in IntWalk.u64_in
theorem call_by2 {P : Program} {n0 : Nat} {d : Option Tmp} {all l : List Oper} {r : List Item} {Q : Exit → S → Prop} {s : S} {g : FuncId} {args : List AV} (gm : List Bool) {ta : List AV} {res : AV} {outs : List AV} (hs : Spec P g ta res outs) {x : List AV × Mem × Prop} {y : List AV × List Nat × Prop}
    (h : giveL gm s.b args = some x ∧ lendA gm x.2.1 x.1 = some y ∧ y.1 = ta ∧ (x.2.2 ∧ y.2.2 ∧ (y.2.1 = [] ∨ NoF res ∧ noFG gm outs)))
    (hk : @Run P n0 ⟨.ops all l :: r, Q⟩ .mk .normal ((putN s (unf res (backG gm x.2.1 args outs) s.n)).put d (unf res (backG gm x.2.1 args outs) s.n).1)) : @CallR P n0 ⟨d, all, l, r, Q⟩ .mk s g args := call_by gm hs h.1 h.2.1 h.2.2.1 h.2.2.2 hk
open Go.Proofs
def wordsS : List (List UInt8) := [[], [], [110, 111, 110, 101], [107, 101, 121], [118, 97, 108, 117, 101], [116, 105, 109, 101], [110, 111, 119], [111, 108, 100], [115, 105, 100, 101], [97, 100, 100], [115, 117, 98], [109, 117, 108], [100, 105, 118], [109, 111, 100], [109, 105, 110], [109, 97, 120], [110, 101, 103], [101, 113], [108, 116], [97, 110, 100], [111, 114], [110, 111, 116], [99, 97, 116], [108, 101, 110], [112, 97, 114, 116], [104, 97, 115], [110, 117, 109], [116, 101, 120, 116], [102, 105, 101, 108, 100], [101, 108, 115, 101], [105, 115], [112, 105, 99, 107], [100, 117, 112], [115, 119, 97, 112], [100, 114, 111, 112], [106, 117, 109, 112], [119, 104, 101, 110]]
def encS (s : List UInt8) : AV := .str (ofL s)
theorem encS_low {r : List UInt8} : low (encS r) = encS r := rfl
theorem encS_cells {r : List UInt8} : cellsOf (encS r) = [.str (ofL r)] := rfl
theorem encS_bd {r : List UInt8} {n : Nat} : Bd n (encS r) = True := by simp [encS, Bd]
theorem encS_noO {r : List UInt8} : NoO (encS r) = True := by simp [encS, NoO]
theorem encS_noF {r : List UInt8} : NoF (encS r) = True := by simp [encS, NoF]
theorem encS_okE {r : List UInt8} : okE 1 (encS r) = True := by simp [encS, okE, cellsOf, allC1, C1]
attribute [push_cast] encS_cells encS_low encS_bd encS_noO encS_noF encS_okE
theorem rwords_spec : Spec Tryd.prog 14 [] (.olst 1 (wordsS.map encS)) [] := by
  refine spec_run (P := Tryd.prog) (f := 14) (fn := Tryd.f14) (by kernel_rfl) (by kernel_rfl) rfl (by simp [Tryd.f14]) ?_; simp (maxSteps := 1000000) (disch := omega) only [push_cast, go_sem, Nat.reduceEqDiff, ↓reduceIte, reduceCtorEq, Nat.reduceAdd, Nat.reduceSub, Nat.reduceLeDiff, Nat.reduceLT, Int.reduceLT, Int.reduceLE, Int.reduceEq, Int.reduceNeg, Nat.reduceMul, Int.reduceAdd, Int.reduceToNat, Tryd.f14, *]
  repeat' (first
    | with_reducible refine And.intro ?_ ?_
    | (with_reducible intro hx; (try simp only [false_dec, true_dec, Int.ofNat_inj, gt_iff_lt, ge_iff_le, decide_eq_true_eq, decide_eq_false_iff_not, Bool.not_eq_true', Bool.not_eq_false', Bool.and_eq_true, Bool.or_eq_false_iff, ne_eq, Classical.not_not] at hx); (first | (exfalso; omega) | (try simp (maxSteps := 1000000) (disch := omega) only [push_cast, go_sem, Nat.reduceEqDiff, ↓reduceIte, reduceCtorEq, Nat.reduceAdd, Nat.reduceSub, Nat.reduceLeDiff, Nat.reduceLT, Int.reduceLT, Int.reduceLE, Int.reduceEq, Int.reduceNeg, Nat.reduceMul, Int.reduceAdd, Int.reduceToNat, *])))
    | (with_reducible refine branch_t ?_; (try simp (maxSteps := 1000000) (disch := omega) only [push_cast, go_sem, Nat.reduceEqDiff, ↓reduceIte, reduceCtorEq, Nat.reduceAdd, Nat.reduceSub, Nat.reduceLeDiff, Nat.reduceLT, Int.reduceLT, Int.reduceLE, Int.reduceEq, Int.reduceNeg, Nat.reduceMul, Int.reduceAdd, Int.reduceToNat, *]))
    | (with_reducible refine branch_f ?_; (try simp (maxSteps := 1000000) (disch := omega) only [push_cast, go_sem, Nat.reduceEqDiff, ↓reduceIte, reduceCtorEq, Nat.reduceAdd, Nat.reduceSub, Nat.reduceLeDiff, Nat.reduceLT, Int.reduceLT, Int.reduceLE, Int.reduceEq, Int.reduceNeg, Nat.reduceMul, Int.reduceAdd, Int.reduceToNat, *]))
    | (with_reducible refine cond_split ?_ ?_)
    | (with_reducible refine guard_split ?_ ?_)
    | ((with_reducible refine drw_open 0 ?_); simp (maxSteps := 1000000) (disch := omega) only [push_cast, go_sem, Nat.reduceEqDiff, ↓reduceIte, reduceCtorEq, Nat.reduceAdd, Nat.reduceSub, Nat.reduceLeDiff, Nat.reduceLT, Int.reduceLT, Int.reduceLE, Int.reduceEq, Int.reduceNeg, Nat.reduceMul, Int.reduceAdd, Int.reduceToNat, *]; (with_reducible refine drw_id ?_))
    | ((with_reducible refine drw_open 1 ?_); simp (maxSteps := 1000000) (disch := omega) only [push_cast, go_sem, Nat.reduceEqDiff, ↓reduceIte, reduceCtorEq, Nat.reduceAdd, Nat.reduceSub, Nat.reduceLeDiff, Nat.reduceLT, Int.reduceLT, Int.reduceLE, Int.reduceEq, Int.reduceNeg, Nat.reduceMul, Int.reduceAdd, Int.reduceToNat, *]; (with_reducible refine drw_id ?_))
    | ((with_reducible refine drw_open 2 ?_); simp (maxSteps := 1000000) (disch := omega) only [push_cast, go_sem, Nat.reduceEqDiff, ↓reduceIte, reduceCtorEq, Nat.reduceAdd, Nat.reduceSub, Nat.reduceLeDiff, Nat.reduceLT, Int.reduceLT, Int.reduceLE, Int.reduceEq, Int.reduceNeg, Nat.reduceMul, Int.reduceAdd, Int.reduceToNat, *]; (with_reducible refine drw_id ?_))
    | ((with_reducible refine drw_intro ?_ ?_); (focus decide +kernel); (try simp (maxSteps := 1000000) (disch := omega) only [push_cast, go_sem, Nat.reduceEqDiff, ↓reduceIte, reduceCtorEq, Nat.reduceAdd, Nat.reduceSub, Nat.reduceLeDiff, Nat.reduceLT, Int.reduceLT, Int.reduceLE, Int.reduceEq, Int.reduceNeg, Nat.reduceMul, Int.reduceAdd, Int.reduceToNat, *]))
    | (with_reducible refine still_split ?_ ?_)
    | omega)
  rfl
end Go.Ev

/-
What holds of the program of layer 22: its example comes to true; the list of words; a copy of a text; the package variables that are read.
-/
namespace Go.Proofs.YtjmbfcodmmnbiaaDoor
open Go.ChangeShapes Go.WideShapes Go.ChangeAt Go.RowKit Go.Eb Go.ChangeMaps
set_option linter.unusedVariables false
set_option maxRecDepth 100000

theorem own : ownKnob Tryd.prog.godebug = none := by kernel_rfl
theorem laidOut : laidOutB Tryd.prog = true := by kernel_rfl
theorem rowed : mapsRowed Tryd.prog = true := by kernel_rfl
theorem full : ((List.range Tryd.prog.types.size).all fun t => match Tryd.prog.underlying t with | some (.slice e) => decide (0 < Tryd.prog.cellsOf e) | _ => true) = true := by kernel_rfl

/-! ### A copy of a text -/
def renC : Go.Shelf.Ren := ⟨fun i => if i = 25 then 93 else i, fun t => if t = 37 then 75 else if t = 47 then 100 else t, fun g => g⟩
theorem laysC : LaysPu.n25 Tryd.prog renC where
  mixed := by kernel_rfl
  f25 := by kernel_rfl
  t0 := by kernel_rfl
  a0 := fun w => by kernel_rfl
  z0 := fun w => by kernel_rfl
  v0 := fun w => by kernel_rfl
  i0 := by kernel_rfl
  t3 := by kernel_rfl
  a3 := fun w => by kernel_rfl
  z3 := fun w => by kernel_rfl
  v3 := fun w => by kernel_rfl
  i3 := by kernel_rfl
  t4 := by kernel_rfl
  a4 := fun w => by kernel_rfl
  z4 := fun w => by kernel_rfl
  v4 := fun w => by kernel_rfl
  i4 := by kernel_rfl
  t5 := by kernel_rfl
  a5 := fun w => by kernel_rfl
  z5 := fun w => by kernel_rfl
  v5 := fun w => by kernel_rfl
  i5 := by kernel_rfl
  t9 := by kernel_rfl
  a9 := fun w => by kernel_rfl
  z9 := fun w => by kernel_rfl
  v9 := fun w => by kernel_rfl
  i9 := by kernel_rfl
  t37 := by kernel_rfl
  a37 := fun w => by kernel_rfl
  z37 := fun w => by kernel_rfl
  v37 := fun w => by kernel_rfl
  i37 := by kernel_rfl
  t47 := by kernel_rfl
  a47 := fun w => by kernel_rfl
  z47 := fun w => by kernel_rfl
  v47 := fun w => by kernel_rfl
  i47 := by kernel_rfl
theorem clone : KnOk Tryd.prog 93 .idstr := fun w s hs _ => (AnyPu.stringslite_Clone laysC s w (Nat.le_trans hs (by decide))).mono fun e w' ⟨he, hb⟩ => ⟨⟨hb.size, hb.block, hb.tape, hb.os, hb.output⟩, he⟩

/-! ### What is known -/
def wordsL : List (List Nat) := [[], [], [110, 111, 110, 101], [107, 101, 121], [118, 97, 108, 117, 101], [116, 105, 109, 101], [110, 111, 119], [111, 108, 100], [115, 105, 100, 101], [97, 100, 100], [115, 117, 98], [109, 117, 108], [100, 105, 118], [109, 111, 100], [109, 105, 110], [109, 97, 120], [110, 101, 103], [101, 113], [108, 116], [97, 110, 100], [111, 114], [110, 111, 116], [99, 97, 116], [108, 101, 110], [112, 97, 114, 116], [104, 97, 115], [110, 117, 109], [116, 101, 120, 116], [102, 105, 101, 108, 100], [101, 108, 115, 101], [105, 115], [112, 105, 99, 107], [100, 117, 112], [115, 119, 97, 112], [100, 114, 111, 112], [106, 117, 109, 112], [119, 104, 101, 110]]
noncomputable def wordsT : T V := strsT wordsL
theorem known1 : Known Tryd.prog [(93, .idstr)] := known_more known_nil (by kernel_rfl) clone
theorem words : runB Tryd.prog [(93, .idstr)] 100 25 [] .e 0 (isRes 0 1 37 37 true wordsT) = some () := by kernel_rfl
theorem known2 : Known Tryd.prog [(25, .res (.sl 0 0 1 37 none) (.cells 37 true wordsT)), (93, .idstr)] := known_res known1 (by kernel_rfl) words
theorem awake : runB Tryd.prog [(25, .res (.sl 0 0 1 37 none) (.cells 37 true wordsT)), (93, .idstr)] 100 10 [] .e 0 isTrue = some () := by kernel_rfl
noncomputable def kn : List (Nat × KS) := [(10, .tru), (25, .res (.sl 0 0 1 37 none) (.cells 37 true wordsT)), (93, .idstr)]
theorem known : Known Tryd.prog kn := known_tru known2 (by kernel_rfl) awake

/-! ### The package variables -/
theorem glob23 (k : Nat) (h : globOk Tryd.prog k = true) : k = 2 ∨ k = 3 := by
  rcases Nat.lt_or_ge k 8 with hk | hk
  · have h1 : ((List.range 8).all fun k => !globOk Tryd.prog k || Nat.beq k 2 || Nat.beq k 3) = true := by kernel_rfl
    have := List.all_eq_true.1 h1 k (List.mem_range.2 hk)
    rw [h] at this
    simpa [Nat.beq_eq] using this
  · have hs : Tryd.prog.globals.size = 8 := by kernel_rfl
    unfold globOk at h
    rw [Array.getElem?_eq_none (by rw [hs]; exact hk)] at h
    cases h
theorem glob_of {W : World} {n nm : String} {d : DataW Unit} {g t : Nat} (h : Lib.VarReads Tryd.prog W n (.iface nm d)) (hg : Tryd.prog.globalNamed n = some g) (ht : (Tryd.prog.globals[g]?).map (·.type) = some t) (hu : isIfc Tryd.prog t = true) :
    ∃ c, W.cell? ⟨g, 0, none⟩ = some c ∧ c.oneCell' = true := by
  obtain ⟨ms, hu⟩ : ∃ ms, Tryd.prog.underlying t = some (.interface ms) := by
    unfold isIfc at hu
    split at hu
    · rename_i ms h2; exact ⟨ms, h2⟩
    · cases hu
  obtain ⟨g', t', cs, fuel, p, h1, h2, h3, h4⟩ := h
  obtain rfl : g = g' := by rw [hg] at h1; injection h1
  obtain rfl : t = t' := by rw [ht] at h2; injection h2
  obtain ⟨_, u, v, hcs, _⟩ := iface_of_trod hu h4
  refine ⟨.iface u v, ?_, rfl⟩
  rw [World.var?_cell hg h3 0, ← Array.getElem?_toList, hcs]
  rfl

/-! ### A world for the witness -/
def flatD : DataW Unit → List Value
  | .lit (.int k n) => [.int k n]
  | .agg ds => flatL ds
  | _ => []
where flatL : List (DataW Unit) → List Value
  | [] => []
  | d :: r => flatD d ++ flatL r
def textV (d : DataW Unit) : Value := match d with
  | .iface _ (.ptr (.agg [.lit (.string l)])) => .string ⟨l.toArray⟩
  | _ => .nilIface
noncomputable def laidWorld (os : Os) : World :=
  let N := (World.settled Tryd.prog os).heap.size
  let w0 := World.holding Tryd.prog os ⟨#[.cells #[textV Rows.laid_strconv_ErrSyntax] 148, .cells #[textV Rows.laid_strconv_ErrRange] 148], #[], []⟩
  let put (h : Array Obj) (g : Nat) (cs : Array Value) : Array Obj := h.modify g fun
    | .cells _ t frozen => .cells cs t frozen
    | o => o
  let h1 := put w0.heap 1 (flatD Rows.laid_internal_strconv_uint64pow10).toArray
  let h2 := put h1 2 #[.iface 146 (.pointer (some ⟨N, 0, none⟩))]
  let h3 := put h2 3 #[.iface 146 (.pointer (some ⟨N + 1, 0, none⟩))]
  let h4 := put h3 4 (flatD Rows.laid_unicode_utf8_first).toArray
  let h5 := put h4 5 (flatD Rows.laid_unicode_utf8_acceptRanges).toArray
  let h6 := put h5 6 (flatD Rows.laid_math_bits_deBruijn32tab).toArray
  let h7 := put h6 7 (flatD Rows.laid_math_bits_deBruijn64tab).toArray
  { w0 with heap := h7 }
theorem laid_met (os : Os) (args : Array Value) : laidMet Tryd.prog Rows.exprWordsRow.laid ((laidWorld os).forCall (fun _ _ => 0) ⟨#[], args, []⟩).memory :=
  laidMet_of_run' 8 (by kernel_rfl) (by kernel_rfl)
end Go.Proofs.YtjmbfcodmmnbiaaDoor

set_option linter.unusedVariables false
set_option linter.unusedSimpArgs false
namespace Go.Ev
set_option maxRecDepth 100000
set_option maxHeartbeats 0
open Go.Proofs
theorem words_get : (List.range 37).map (fun i => Go.Proofs.YtjmbfcodmmnbiaaDoor.wordsT.get i) = (List.range 37).map (fun i => (wordsS[i]?).map fun s => Eb.V.str (s.map (·.toNat))) := by kernel_rfl
theorem words_spec : Spec Tryd.prog 25 [] (.lst true 1 (wordsS.map encS)) [] := by
  refine spec_texts Go.Proofs.YtjmbfcodmmnbiaaDoor.known2 rfl rfl (by decide) (by show 37 ≤ MX; unfold MX; omega) fun i s hi => ?_
  have hlt : i < 37 := (List.getElem?_eq_some_iff.1 hi).1
  have h := congrArg (fun l => l[i]?) words_get
  simp only [List.getElem?_map, List.getElem?_range hlt, Option.map_some] at h
  injection h with h
  rw [h, hi]; rfl
def wordOf (c : Int) : List UInt8 := if 3 ≤ c ∧ c ≤ 37 then wordsS.getD (c - 1).toNat [] else []
theorem words_len : wordsS.length = 37 := rfl
theorem word_spec (c : Int) : Spec Tryd.prog 15 [.int .i64 c] (.str (ofL (wordOf c))) [.int .i64 c] := by
  have hw := words_spec
  obtain ⟨W, hW⟩ : ∃ W, wordsS = W := ⟨_, rfl⟩
  have hl : W.length = 37 := by rw [← hW]; rfl
  unfold wordOf
  rw [hW] at hw ⊢
  refine spec_run (P := Tryd.prog) (f := 15) (fn := Tryd.f15) (by kernel_rfl) (by kernel_rfl) rfl (by simp [Tryd.f15]) ?_; simp (maxSteps := 1000000) (disch := omega) only [push_cast, go_sem, Nat.reduceEqDiff, ↓reduceIte, reduceCtorEq, Nat.reduceAdd, Nat.reduceSub, Nat.reduceLeDiff, Nat.reduceLT, Int.reduceLT, Int.reduceLE, Int.reduceEq, Int.reduceNeg, Nat.reduceMul, Int.reduceAdd, Int.reduceToNat, Tryd.f15, *]
  repeat' (first
    | with_reducible refine And.intro ?_ ?_
    | (with_reducible intro hx; (try simp only [false_dec, true_dec, Int.ofNat_inj, gt_iff_lt, ge_iff_le, decide_eq_true_eq, decide_eq_false_iff_not, Bool.not_eq_true', Bool.not_eq_false', Bool.and_eq_true, Bool.or_eq_false_iff, ne_eq, Classical.not_not] at hx); (first | (exfalso; omega) | (try simp (maxSteps := 1000000) (disch := omega) only [push_cast, go_sem, Nat.reduceEqDiff, ↓reduceIte, reduceCtorEq, Nat.reduceAdd, Nat.reduceSub, Nat.reduceLeDiff, Nat.reduceLT, Int.reduceLT, Int.reduceLE, Int.reduceEq, Int.reduceNeg, Nat.reduceMul, Int.reduceAdd, Int.reduceToNat, *])))
    | (with_reducible refine branch_t ?_; (try simp (maxSteps := 1000000) (disch := omega) only [push_cast, go_sem, Nat.reduceEqDiff, ↓reduceIte, reduceCtorEq, Nat.reduceAdd, Nat.reduceSub, Nat.reduceLeDiff, Nat.reduceLT, Int.reduceLT, Int.reduceLE, Int.reduceEq, Int.reduceNeg, Nat.reduceMul, Int.reduceAdd, Int.reduceToNat, *]))
    | (with_reducible refine branch_f ?_; (try simp (maxSteps := 1000000) (disch := omega) only [push_cast, go_sem, Nat.reduceEqDiff, ↓reduceIte, reduceCtorEq, Nat.reduceAdd, Nat.reduceSub, Nat.reduceLeDiff, Nat.reduceLT, Int.reduceLT, Int.reduceLE, Int.reduceEq, Int.reduceNeg, Nat.reduceMul, Int.reduceAdd, Int.reduceToNat, *]))
    | (with_reducible refine cond_split ?_ ?_)
    | (with_reducible refine guard_split ?_ ?_)
    | ((with_reducible refine drw_open 0 ?_); simp (maxSteps := 1000000) (disch := omega) only [push_cast, go_sem, Nat.reduceEqDiff, ↓reduceIte, reduceCtorEq, Nat.reduceAdd, Nat.reduceSub, Nat.reduceLeDiff, Nat.reduceLT, Int.reduceLT, Int.reduceLE, Int.reduceEq, Int.reduceNeg, Nat.reduceMul, Int.reduceAdd, Int.reduceToNat, *]; (with_reducible refine drw_id ?_))
    | ((with_reducible refine drw_open 1 ?_); simp (maxSteps := 1000000) (disch := omega) only [push_cast, go_sem, Nat.reduceEqDiff, ↓reduceIte, reduceCtorEq, Nat.reduceAdd, Nat.reduceSub, Nat.reduceLeDiff, Nat.reduceLT, Int.reduceLT, Int.reduceLE, Int.reduceEq, Int.reduceNeg, Nat.reduceMul, Int.reduceAdd, Int.reduceToNat, *]; (with_reducible refine drw_id ?_))
    | ((with_reducible refine drw_open 2 ?_); simp (maxSteps := 1000000) (disch := omega) only [push_cast, go_sem, Nat.reduceEqDiff, ↓reduceIte, reduceCtorEq, Nat.reduceAdd, Nat.reduceSub, Nat.reduceLeDiff, Nat.reduceLT, Int.reduceLT, Int.reduceLE, Int.reduceEq, Int.reduceNeg, Nat.reduceMul, Int.reduceAdd, Int.reduceToNat, *]; (with_reducible refine drw_id ?_))
    | ((with_reducible refine drw_intro ?_ ?_); (focus decide +kernel); (try simp (maxSteps := 1000000) (disch := omega) only [push_cast, go_sem, Nat.reduceEqDiff, ↓reduceIte, reduceCtorEq, Nat.reduceAdd, Nat.reduceSub, Nat.reduceLeDiff, Nat.reduceLT, Int.reduceLT, Int.reduceLE, Int.reduceEq, Int.reduceNeg, Nat.reduceMul, Int.reduceAdd, Int.reduceToNat, *]))
    | (with_reducible refine still_split ?_ ?_)
    | ((with_reducible refine call_by2 [] (hw) (by first | (refine ⟨?_, ?_, ?_, ?_⟩ <;> ((try simp (maxSteps := 1000000) (disch := omega) only [push_cast, go_sem, Nat.reduceEqDiff, ↓reduceIte, reduceCtorEq, Nat.reduceAdd, Nat.reduceSub, Nat.reduceLeDiff, Nat.reduceLT, Int.reduceLT, Int.reduceLE, Int.reduceEq, Int.reduceNeg, Nat.reduceMul, Int.reduceAdd, Int.reduceToNat, *]); (try rfl); (try omega); done)) | fail) ?_) <;> (try simp (maxSteps := 1000000) (disch := omega) only [push_cast, go_sem, Nat.reduceEqDiff, ↓reduceIte, reduceCtorEq, Nat.reduceAdd, Nat.reduceSub, Nat.reduceLeDiff, Nat.reduceLT, Int.reduceLT, Int.reduceLE, Int.reduceEq, Int.reduceNeg, Nat.reduceMul, Int.reduceAdd, Int.reduceToNat, *]))
    | omega)
  · rw [if_neg (by omega)]
  · rw [if_pos (by omega), List.getD_eq_getElem?_getD, List.getElem?_eq_getElem (by omega)]; rfl
  · rw [if_neg (by omega)]
/-- The code of a word. -/
def IsCode (w : List UInt8) (r : Int) : Prop := (r = 0 ∧ ∀ j : Nat, 2 ≤ j → j < 37 → wordsS.getD j [] ≠ w) ∨ ∃ j : Nat, 2 ≤ j ∧ j < 37 ∧ wordsS.getD j [] = w ∧ r = j + 1
theorem words_ne : ∀ i j : Nat, 2 ≤ i → i < 37 → 2 ≤ j → j < 37 → wordsS.getD i [] = wordsS.getD j [] → i = j := by
  have h : ((List.range 37).all fun i => (List.range 37).all fun j => decide (i < 2) || decide (j < 2) || !decide (wordsS.getD i [] = wordsS.getD j []) || decide (i = j)) = true := by kernel_rfl
  intro i j h1 h2 h3 h4 h5
  have := List.all_eq_true.1 (List.all_eq_true.1 h i (List.mem_range.2 h2)) j (List.mem_range.2 h4)
  simp only [h5, Bool.or_eq_true, decide_eq_true_eq, decide_true, Bool.not_true, Bool.false_eq_true, or_false] at this
  omega
theorem isCode_uniq {w : List UInt8} {r s : Int} (h : IsCode w r) (h' : IsCode w s) : r = s := by
  rcases h with ⟨rfl, h⟩ | ⟨i, h1, h2, h3, rfl⟩
  · rcases h' with ⟨rfl, _⟩ | ⟨j, h4, h5, h6, rfl⟩
    · rfl
    · exact absurd h6 (h j h4 h5)
  · rcases h' with ⟨rfl, h'⟩ | ⟨j, h4, h5, h6, rfl⟩
    · exact absurd h3 (h' i h1 h2)
    · rw [words_ne i j h1 h2 h4 h5 (h3.trans h6.symm)]
theorem code_spec (w : List UInt8) {r : Int} (hr : IsCode w r) : Spec Tryd.prog 16 [.str (ofL w)] (.int .i64 r) [.str (ofL w)] := by
  refine spec_run (P := Tryd.prog) (f := 16) (fn := Tryd.f16) (by kernel_rfl) (by kernel_rfl) rfl (by simp [Tryd.f16]) ?_; simp (maxSteps := 1000000) (disch := omega) only [push_cast, go_sem, Nat.reduceEqDiff, ↓reduceIte, reduceCtorEq, Nat.reduceAdd, Nat.reduceSub, Nat.reduceLeDiff, Nat.reduceLT, Int.reduceLT, Int.reduceLE, Int.reduceEq, Int.reduceNeg, Nat.reduceMul, Int.reduceAdd, Int.reduceToNat, Tryd.f16, *]
  repeat' (first
    | with_reducible refine And.intro ?_ ?_
    | (with_reducible intro hx; (try simp only [false_dec, true_dec, Int.ofNat_inj, gt_iff_lt, ge_iff_le, decide_eq_true_eq, decide_eq_false_iff_not, Bool.not_eq_true', Bool.not_eq_false', Bool.and_eq_true, Bool.or_eq_false_iff, ne_eq, Classical.not_not] at hx); (first | (exfalso; omega) | (try simp (maxSteps := 1000000) (disch := omega) only [push_cast, go_sem, Nat.reduceEqDiff, ↓reduceIte, reduceCtorEq, Nat.reduceAdd, Nat.reduceSub, Nat.reduceLeDiff, Nat.reduceLT, Int.reduceLT, Int.reduceLE, Int.reduceEq, Int.reduceNeg, Nat.reduceMul, Int.reduceAdd, Int.reduceToNat, *])))
    | (with_reducible refine branch_t ?_; (try simp (maxSteps := 1000000) (disch := omega) only [push_cast, go_sem, Nat.reduceEqDiff, ↓reduceIte, reduceCtorEq, Nat.reduceAdd, Nat.reduceSub, Nat.reduceLeDiff, Nat.reduceLT, Int.reduceLT, Int.reduceLE, Int.reduceEq, Int.reduceNeg, Nat.reduceMul, Int.reduceAdd, Int.reduceToNat, *]))
    | (with_reducible refine branch_f ?_; (try simp (maxSteps := 1000000) (disch := omega) only [push_cast, go_sem, Nat.reduceEqDiff, ↓reduceIte, reduceCtorEq, Nat.reduceAdd, Nat.reduceSub, Nat.reduceLeDiff, Nat.reduceLT, Int.reduceLT, Int.reduceLE, Int.reduceEq, Int.reduceNeg, Nat.reduceMul, Int.reduceAdd, Int.reduceToNat, *]))
    | (with_reducible refine cond_split ?_ ?_)
    | (with_reducible refine guard_split ?_ ?_)
    | ((with_reducible refine drw_open 0 ?_); simp (maxSteps := 1000000) (disch := omega) only [push_cast, go_sem, Nat.reduceEqDiff, ↓reduceIte, reduceCtorEq, Nat.reduceAdd, Nat.reduceSub, Nat.reduceLeDiff, Nat.reduceLT, Int.reduceLT, Int.reduceLE, Int.reduceEq, Int.reduceNeg, Nat.reduceMul, Int.reduceAdd, Int.reduceToNat, *]; (with_reducible refine drw_id ?_))
    | ((with_reducible refine drw_open 1 ?_); simp (maxSteps := 1000000) (disch := omega) only [push_cast, go_sem, Nat.reduceEqDiff, ↓reduceIte, reduceCtorEq, Nat.reduceAdd, Nat.reduceSub, Nat.reduceLeDiff, Nat.reduceLT, Int.reduceLT, Int.reduceLE, Int.reduceEq, Int.reduceNeg, Nat.reduceMul, Int.reduceAdd, Int.reduceToNat, *]; (with_reducible refine drw_id ?_))
    | ((with_reducible refine drw_open 2 ?_); simp (maxSteps := 1000000) (disch := omega) only [push_cast, go_sem, Nat.reduceEqDiff, ↓reduceIte, reduceCtorEq, Nat.reduceAdd, Nat.reduceSub, Nat.reduceLeDiff, Nat.reduceLT, Int.reduceLT, Int.reduceLE, Int.reduceEq, Int.reduceNeg, Nat.reduceMul, Int.reduceAdd, Int.reduceToNat, *]; (with_reducible refine drw_id ?_))
    | ((with_reducible refine drw_intro ?_ ?_); (focus decide +kernel); (try simp (maxSteps := 1000000) (disch := omega) only [push_cast, go_sem, Nat.reduceEqDiff, ↓reduceIte, reduceCtorEq, Nat.reduceAdd, Nat.reduceSub, Nat.reduceLeDiff, Nat.reduceLT, Int.reduceLT, Int.reduceLE, Int.reduceEq, Int.reduceNeg, Nat.reduceMul, Int.reduceAdd, Int.reduceToNat, *]))
    | (with_reducible refine still_split ?_ ?_)
    | omega)
  refine loop_by (σ := Nat) (fun i N => ([(3, .int .i64 (i : Int)), (2, .int .i64 0), (0, .str (ofL w))], [])) (fun i => 3 ≤ i ∧ i ≤ 38 ∧ ∀ j : Nat, 2 ≤ j → j < i - 1 → wordsS.getD j [] ≠ w) (fun i => 38 - i) 3 _ ⟨by omega, by omega, fun j h1 h2 => by omega⟩ (by simp (maxSteps := 1000000) (disch := omega) only [push_cast, go_sem, Nat.reduceEqDiff, ↓reduceIte, reduceCtorEq, Nat.reduceAdd, Nat.reduceSub, Nat.reduceLeDiff, Nat.reduceLT, Int.reduceLT, Int.reduceLE, Int.reduceEq, Int.reduceNeg, Nat.reduceMul, Int.reduceAdd, Int.reduceToNat, *]) (by simp (maxSteps := 1000000) (disch := omega) only [push_cast, go_sem, Nat.reduceEqDiff, ↓reduceIte, reduceCtorEq, Nat.reduceAdd, Nat.reduceSub, Nat.reduceLeDiff, Nat.reduceLT, Int.reduceLT, Int.reduceLE, Int.reduceEq, Int.reduceNeg, Nat.reduceMul, Int.reduceAdd, Int.reduceToNat, *]) (Nat.le_refl _) ?_
  rintro i N hN ⟨h3, h38, hinv⟩
  have hw : wordOf i = wordsS.getD (i - 1) [] ∨ i = 38 := by
    rcases Nat.lt_or_ge i 38 with h | h
    · refine .inl ?_
      unfold wordOf
      rw [if_pos (by omega)]
      congr 1; omega
    · exact .inr (by omega)
  simp (maxSteps := 1000000) (disch := omega) only [push_cast, go_sem, Nat.reduceEqDiff, ↓reduceIte, reduceCtorEq, Nat.reduceAdd, Nat.reduceSub, Nat.reduceLeDiff, Nat.reduceLT, Int.reduceLT, Int.reduceLE, Int.reduceEq, Int.reduceNeg, Nat.reduceMul, Int.reduceAdd, Int.reduceToNat, *]
  repeat' (first
    | with_reducible refine And.intro ?_ ?_
    | (with_reducible intro hx; (try simp only [false_dec, true_dec, Int.ofNat_inj, gt_iff_lt, ge_iff_le, decide_eq_true_eq, decide_eq_false_iff_not, Bool.not_eq_true', Bool.not_eq_false', Bool.and_eq_true, Bool.or_eq_false_iff, ne_eq, Classical.not_not] at hx); (first | (exfalso; omega) | (try simp (maxSteps := 1000000) (disch := omega) only [push_cast, go_sem, Nat.reduceEqDiff, ↓reduceIte, reduceCtorEq, Nat.reduceAdd, Nat.reduceSub, Nat.reduceLeDiff, Nat.reduceLT, Int.reduceLT, Int.reduceLE, Int.reduceEq, Int.reduceNeg, Nat.reduceMul, Int.reduceAdd, Int.reduceToNat, *])))
    | (with_reducible refine branch_t ?_; (try simp (maxSteps := 1000000) (disch := omega) only [push_cast, go_sem, Nat.reduceEqDiff, ↓reduceIte, reduceCtorEq, Nat.reduceAdd, Nat.reduceSub, Nat.reduceLeDiff, Nat.reduceLT, Int.reduceLT, Int.reduceLE, Int.reduceEq, Int.reduceNeg, Nat.reduceMul, Int.reduceAdd, Int.reduceToNat, *]))
    | (with_reducible refine branch_f ?_; (try simp (maxSteps := 1000000) (disch := omega) only [push_cast, go_sem, Nat.reduceEqDiff, ↓reduceIte, reduceCtorEq, Nat.reduceAdd, Nat.reduceSub, Nat.reduceLeDiff, Nat.reduceLT, Int.reduceLT, Int.reduceLE, Int.reduceEq, Int.reduceNeg, Nat.reduceMul, Int.reduceAdd, Int.reduceToNat, *]))
    | (with_reducible refine cond_split ?_ ?_)
    | (with_reducible refine guard_split ?_ ?_)
    | ((with_reducible refine drw_open 0 ?_); simp (maxSteps := 1000000) (disch := omega) only [push_cast, go_sem, Nat.reduceEqDiff, ↓reduceIte, reduceCtorEq, Nat.reduceAdd, Nat.reduceSub, Nat.reduceLeDiff, Nat.reduceLT, Int.reduceLT, Int.reduceLE, Int.reduceEq, Int.reduceNeg, Nat.reduceMul, Int.reduceAdd, Int.reduceToNat, *]; (with_reducible refine drw_id ?_))
    | ((with_reducible refine drw_open 1 ?_); simp (maxSteps := 1000000) (disch := omega) only [push_cast, go_sem, Nat.reduceEqDiff, ↓reduceIte, reduceCtorEq, Nat.reduceAdd, Nat.reduceSub, Nat.reduceLeDiff, Nat.reduceLT, Int.reduceLT, Int.reduceLE, Int.reduceEq, Int.reduceNeg, Nat.reduceMul, Int.reduceAdd, Int.reduceToNat, *]; (with_reducible refine drw_id ?_))
    | ((with_reducible refine drw_open 2 ?_); simp (maxSteps := 1000000) (disch := omega) only [push_cast, go_sem, Nat.reduceEqDiff, ↓reduceIte, reduceCtorEq, Nat.reduceAdd, Nat.reduceSub, Nat.reduceLeDiff, Nat.reduceLT, Int.reduceLT, Int.reduceLE, Int.reduceEq, Int.reduceNeg, Nat.reduceMul, Int.reduceAdd, Int.reduceToNat, *]; (with_reducible refine drw_id ?_))
    | ((with_reducible refine drw_intro ?_ ?_); (focus decide +kernel); (try simp (maxSteps := 1000000) (disch := omega) only [push_cast, go_sem, Nat.reduceEqDiff, ↓reduceIte, reduceCtorEq, Nat.reduceAdd, Nat.reduceSub, Nat.reduceLeDiff, Nat.reduceLT, Int.reduceLT, Int.reduceLE, Int.reduceEq, Int.reduceNeg, Nat.reduceMul, Int.reduceAdd, Int.reduceToNat, *]))
    | (with_reducible refine still_split ?_ ?_)
    | ((with_reducible refine call_by2 [] (word_spec _) (by first | (refine ⟨?_, ?_, ?_, ?_⟩ <;> ((try simp (maxSteps := 1000000) (disch := omega) only [push_cast, go_sem, Nat.reduceEqDiff, ↓reduceIte, reduceCtorEq, Nat.reduceAdd, Nat.reduceSub, Nat.reduceLeDiff, Nat.reduceLT, Int.reduceLT, Int.reduceLE, Int.reduceEq, Int.reduceNeg, Nat.reduceMul, Int.reduceAdd, Int.reduceToNat, *]); (try rfl); (try omega); done)) | fail) ?_) <;> (try simp (maxSteps := 1000000) (disch := omega) only [push_cast, go_sem, Nat.reduceEqDiff, ↓reduceIte, reduceCtorEq, Nat.reduceAdd, Nat.reduceSub, Nat.reduceLeDiff, Nat.reduceLT, Int.reduceLT, Int.reduceLE, Int.reduceEq, Int.reduceNeg, Nat.reduceMul, Int.reduceAdd, Int.reduceToNat, *]))
    | omega)
  · have : r = i := isCode_uniq hr (.inr ⟨i - 1, by omega, by omega, by
      rcases hw with h | h
      · rw [← h]; assumption
      · omega, by omega⟩)
    rw [this]
  · refine loop_end (i + 1) _ (by omega) ⟨by omega, by omega, fun j h1 h2 => ?_⟩ (by omega) (by simp (maxSteps := 1000000) (disch := omega) only [push_cast, go_sem, Nat.reduceEqDiff, ↓reduceIte, reduceCtorEq, Nat.reduceAdd, Nat.reduceSub, Nat.reduceLeDiff, Nat.reduceLT, Int.reduceLT, Int.reduceLE, Int.reduceEq, Int.reduceNeg, Nat.reduceMul, Int.reduceAdd, Int.reduceToNat, *]) (by simp (maxSteps := 1000000) (disch := omega) only [push_cast, go_sem, Nat.reduceEqDiff, ↓reduceIte, reduceCtorEq, Nat.reduceAdd, Nat.reduceSub, Nat.reduceLeDiff, Nat.reduceLT, Int.reduceLT, Int.reduceLE, Int.reduceEq, Int.reduceNeg, Nat.reduceMul, Int.reduceAdd, Int.reduceToNat, *]) (Nat.le_refl _)
    rcases Nat.lt_or_ge j (i - 1) with h | h
    · exact hinv j h1 h
    · obtain rfl : j = i - 1 := by omega
      rcases hw with h | h
      · rw [← h]; assumption
      · omega
  · have : r = 0 := isCode_uniq hr (.inl ⟨rfl, fun j h1 h2 => hinv j h1 (by omega)⟩)
    rw [this]
theorem awake19_spec : Spec Tryd.prog 10 [] (.bool true) [] := spec_closed (by kernel_rfl) Go.Proofs.YtjmbfcodmmnbiaaDoor.known2 Go.Proofs.YtjmbfcodmmnbiaaDoor.awake
theorem exprWords_spec (code : Int) (word : List UInt8) (hl : word.length ≤ 140737488355328) : Spec Tryd.prog 4 [.int .i64 code, .str (ofL word)] (.bool true) [.int .i64 code, .str (ofL word)] := by
  have hw := rwords_spec
  obtain ⟨wd, hwd⟩ : ∃ wd, word.take 20 = wd := ⟨_, rfl⟩
  have hcodes : ∀ w, ∃ r, IsCode w r := fun w => by
    by_cases h : ∃ j : Nat, 2 ≤ j ∧ j < 37 ∧ wordsS.getD j [] = w
    · obtain ⟨j, h1, h2, h3⟩ := h
      exact ⟨_, .inr ⟨j, h1, h2, h3, rfl⟩⟩
    · exact ⟨0, .inl ⟨rfl, fun j h1 h2 h3 => h ⟨j, h1, h2, h3⟩⟩⟩
  obtain ⟨W, hW⟩ : ∃ W, wordsS = W := ⟨_, rfl⟩
  have hWl : W.length = 37 := by rw [← hW]; rfl
  rw [hW] at hw
  by_cases hc : 3 ≤ code ∧ code ≤ 37
  · have hcd : IsCode (wordOf code) code := .inr ⟨(code - 1).toNat, by omega, by omega, by unfold wordOf; rw [if_pos hc], by omega⟩
    have hwo : ∀ h : (code - 1).toNat < W.length, W[(code - 1).toNat] = wordOf code := fun h => by
      subst hW
      unfold wordOf
      rw [if_pos hc, List.getD_eq_getElem?_getD, List.getElem?_eq_getElem h]; rfl
    refine spec_run (P := Tryd.prog) (f := 4) (fn := Tryd.f4) (by kernel_rfl) (by kernel_rfl) rfl (by simp [Tryd.f4]) ?_; simp (maxSteps := 1000000) (disch := omega) only [push_cast, go_sem, Nat.reduceEqDiff, ↓reduceIte, reduceCtorEq, Nat.reduceAdd, Nat.reduceSub, Nat.reduceLeDiff, Nat.reduceLT, Int.reduceLT, Int.reduceLE, Int.reduceEq, Int.reduceNeg, Nat.reduceMul, Int.reduceAdd, Int.reduceToNat, Tryd.f4, *]
    repeat' (first
    | with_reducible refine And.intro ?_ ?_
    | (with_reducible intro hx; (try simp only [false_dec, true_dec, Int.ofNat_inj, gt_iff_lt, ge_iff_le, decide_eq_true_eq, decide_eq_false_iff_not, Bool.not_eq_true', Bool.not_eq_false', Bool.and_eq_true, Bool.or_eq_false_iff, ne_eq, Classical.not_not] at hx); (first | (exfalso; omega) | (try simp (maxSteps := 1000000) (disch := omega) only [push_cast, go_sem, Nat.reduceEqDiff, ↓reduceIte, reduceCtorEq, Nat.reduceAdd, Nat.reduceSub, Nat.reduceLeDiff, Nat.reduceLT, Int.reduceLT, Int.reduceLE, Int.reduceEq, Int.reduceNeg, Nat.reduceMul, Int.reduceAdd, Int.reduceToNat, *])))
    | (with_reducible refine branch_t ?_; (try simp (maxSteps := 1000000) (disch := omega) only [push_cast, go_sem, Nat.reduceEqDiff, ↓reduceIte, reduceCtorEq, Nat.reduceAdd, Nat.reduceSub, Nat.reduceLeDiff, Nat.reduceLT, Int.reduceLT, Int.reduceLE, Int.reduceEq, Int.reduceNeg, Nat.reduceMul, Int.reduceAdd, Int.reduceToNat, *]))
    | (with_reducible refine branch_f ?_; (try simp (maxSteps := 1000000) (disch := omega) only [push_cast, go_sem, Nat.reduceEqDiff, ↓reduceIte, reduceCtorEq, Nat.reduceAdd, Nat.reduceSub, Nat.reduceLeDiff, Nat.reduceLT, Int.reduceLT, Int.reduceLE, Int.reduceEq, Int.reduceNeg, Nat.reduceMul, Int.reduceAdd, Int.reduceToNat, *]))
    | (with_reducible refine cond_split ?_ ?_)
    | (with_reducible refine guard_split ?_ ?_)
    | ((with_reducible refine drw_open 0 ?_); simp (maxSteps := 1000000) (disch := omega) only [push_cast, go_sem, Nat.reduceEqDiff, ↓reduceIte, reduceCtorEq, Nat.reduceAdd, Nat.reduceSub, Nat.reduceLeDiff, Nat.reduceLT, Int.reduceLT, Int.reduceLE, Int.reduceEq, Int.reduceNeg, Nat.reduceMul, Int.reduceAdd, Int.reduceToNat, *]; (with_reducible refine drw_id ?_))
    | ((with_reducible refine drw_open 1 ?_); simp (maxSteps := 1000000) (disch := omega) only [push_cast, go_sem, Nat.reduceEqDiff, ↓reduceIte, reduceCtorEq, Nat.reduceAdd, Nat.reduceSub, Nat.reduceLeDiff, Nat.reduceLT, Int.reduceLT, Int.reduceLE, Int.reduceEq, Int.reduceNeg, Nat.reduceMul, Int.reduceAdd, Int.reduceToNat, *]; (with_reducible refine drw_id ?_))
    | ((with_reducible refine drw_open 2 ?_); simp (maxSteps := 1000000) (disch := omega) only [push_cast, go_sem, Nat.reduceEqDiff, ↓reduceIte, reduceCtorEq, Nat.reduceAdd, Nat.reduceSub, Nat.reduceLeDiff, Nat.reduceLT, Int.reduceLT, Int.reduceLE, Int.reduceEq, Int.reduceNeg, Nat.reduceMul, Int.reduceAdd, Int.reduceToNat, *]; (with_reducible refine drw_id ?_))
    | ((with_reducible refine drw_intro ?_ ?_); (focus decide +kernel); (try simp (maxSteps := 1000000) (disch := omega) only [push_cast, go_sem, Nat.reduceEqDiff, ↓reduceIte, reduceCtorEq, Nat.reduceAdd, Nat.reduceSub, Nat.reduceLeDiff, Nat.reduceLT, Int.reduceLT, Int.reduceLE, Int.reduceEq, Int.reduceNeg, Nat.reduceMul, Int.reduceAdd, Int.reduceToNat, *]))
    | (with_reducible refine still_split ?_ ?_)
    | ((with_reducible refine call_by2 [] (hw) (by first | (refine ⟨?_, ?_, ?_, ?_⟩ <;> ((try simp (maxSteps := 1000000) (disch := omega) only [push_cast, go_sem, Nat.reduceEqDiff, ↓reduceIte, reduceCtorEq, Nat.reduceAdd, Nat.reduceSub, Nat.reduceLeDiff, Nat.reduceLT, Int.reduceLT, Int.reduceLE, Int.reduceEq, Int.reduceNeg, Nat.reduceMul, Int.reduceAdd, Int.reduceToNat, *]); (try rfl); (try omega); done)) | fail) ?_) <;> (try simp (maxSteps := 1000000) (disch := omega) only [push_cast, go_sem, Nat.reduceEqDiff, ↓reduceIte, reduceCtorEq, Nat.reduceAdd, Nat.reduceSub, Nat.reduceLeDiff, Nat.reduceLT, Int.reduceLT, Int.reduceLE, Int.reduceEq, Int.reduceNeg, Nat.reduceMul, Int.reduceAdd, Int.reduceToNat, *]))
    | ((with_reducible refine call_by2 [] (word_spec _) (by first | (refine ⟨?_, ?_, ?_, ?_⟩ <;> ((try simp (maxSteps := 1000000) (disch := omega) only [push_cast, go_sem, Nat.reduceEqDiff, ↓reduceIte, reduceCtorEq, Nat.reduceAdd, Nat.reduceSub, Nat.reduceLeDiff, Nat.reduceLT, Int.reduceLT, Int.reduceLE, Int.reduceEq, Int.reduceNeg, Nat.reduceMul, Int.reduceAdd, Int.reduceToNat, *]); (try rfl); (try omega); done)) | fail) ?_) <;> (try simp (maxSteps := 1000000) (disch := omega) only [push_cast, go_sem, Nat.reduceEqDiff, ↓reduceIte, reduceCtorEq, Nat.reduceAdd, Nat.reduceSub, Nat.reduceLeDiff, Nat.reduceLT, Int.reduceLT, Int.reduceLE, Int.reduceEq, Int.reduceNeg, Nat.reduceMul, Int.reduceAdd, Int.reduceToNat, *]))
    | ((with_reducible refine call_by2 [] (code_spec _ hcd) (by first | (refine ⟨?_, ?_, ?_, ?_⟩ <;> ((try simp (maxSteps := 1000000) (disch := omega) only [push_cast, go_sem, Nat.reduceEqDiff, ↓reduceIte, reduceCtorEq, Nat.reduceAdd, Nat.reduceSub, Nat.reduceLeDiff, Nat.reduceLT, Int.reduceLT, Int.reduceLE, Int.reduceEq, Int.reduceNeg, Nat.reduceMul, Int.reduceAdd, Int.reduceToNat, *]); (try rfl); (try omega); done)) | fail) ?_) <;> (try simp (maxSteps := 1000000) (disch := omega) only [push_cast, go_sem, Nat.reduceEqDiff, ↓reduceIte, reduceCtorEq, Nat.reduceAdd, Nat.reduceSub, Nat.reduceLeDiff, Nat.reduceLT, Int.reduceLT, Int.reduceLE, Int.reduceEq, Int.reduceNeg, Nat.reduceMul, Int.reduceAdd, Int.reduceToNat, *]))
    | omega)
    · have hg : ∀ (i : Nat) (h : i < W.length), W.getD i [] = W[i] := fun i h => by rw [List.getD_eq_getElem?_getD, List.getElem?_eq_getElem h]; rfl
      obtain ⟨r, hr⟩ := hcodes wd
      refine loop_by (σ := Nat × Int) (fun x N => ([(41, .int .i64 x.1), (40, .int .i64 37), (39, .row 1 37 0 37), (6, .int .i64 x.2), (4, .bool false), (0, .int .i64 code), (1, .str (ofL wd))], [(1, .row 1 (W.map encS) false)]))
        (fun x => x.1 ≤ 37 ∧ ((x.2 = 0 ∧ ∀ j : Nat, 2 ≤ j → j < x.1 → W.getD j [] ≠ wd) ∨ ∃ j : Nat, 2 ≤ j ∧ j < x.1 ∧ W.getD j [] = wd ∧ x.2 = j + 1)) (fun x => 37 - x.1) (0, 0) _ ⟨by simp, .inl ⟨rfl, fun j h1 h2 => by dsimp only at h2; omega⟩⟩ (by simp (maxSteps := 1000000) (disch := omega) only [push_cast, go_sem, Nat.reduceEqDiff, ↓reduceIte, reduceCtorEq, Nat.reduceAdd, Nat.reduceSub, Nat.reduceLeDiff, Nat.reduceLT, Int.reduceLT, Int.reduceLE, Int.reduceEq, Int.reduceNeg, Nat.reduceMul, Int.reduceAdd, Int.reduceToNat, *]) (by simp (maxSteps := 1000000) (disch := omega) only [push_cast, go_sem, Nat.reduceEqDiff, ↓reduceIte, reduceCtorEq, Nat.reduceAdd, Nat.reduceSub, Nat.reduceLeDiff, Nat.reduceLT, Int.reduceLT, Int.reduceLE, Int.reduceEq, Int.reduceNeg, Nat.reduceMul, Int.reduceAdd, Int.reduceToNat, *]) (Nat.le_refl _) ?_
      rintro ⟨i, k⟩ N hN ⟨hi, hk⟩
      dsimp only at hi hk
      have keep : (∀ h : i < W.length, 2 ≤ i → W[i] ≠ wd) → i < 37 → ((k = 0 ∧ ∀ j : Nat, 2 ≤ j → j < i + 1 → W.getD j [] ≠ wd) ∨ ∃ j : Nat, 2 ≤ j ∧ j < i + 1 ∧ W.getD j [] = wd ∧ k = j + 1) := fun h hi37 => by
        rcases hk with ⟨h1, h2⟩ | ⟨j, h1, h2, h3, h4⟩
        · refine .inl ⟨h1, fun j h3 h4 => ?_⟩
          rcases Nat.lt_or_ge j i with h5 | h5
          · exact h2 j h3 h5
          · obtain rfl : j = i := by omega
            rw [hg j (by omega)]; exact h (by omega) h3
        · exact .inr ⟨j, h1, by omega, h3, h4⟩
      have hend : i = 37 → IsCode wd k := fun e => by subst e; rw [IsCode, hW]; exact hk
      clear hk
      dsimp only
      by_cases hil : i < 37
      · simp (maxSteps := 1000000) (disch := omega) only [push_cast, go_sem, Nat.reduceEqDiff, ↓reduceIte, reduceCtorEq, Nat.reduceAdd, Nat.reduceSub, Nat.reduceLeDiff, Nat.reduceLT, Int.reduceLT, Int.reduceLE, Int.reduceEq, Int.reduceNeg, Nat.reduceMul, Int.reduceAdd, Int.reduceToNat, *]
        repeat' (first
    | with_reducible refine And.intro ?_ ?_
    | (with_reducible intro hx; (try simp only [false_dec, true_dec, Int.ofNat_inj, gt_iff_lt, ge_iff_le, decide_eq_true_eq, decide_eq_false_iff_not, Bool.not_eq_true', Bool.not_eq_false', Bool.and_eq_true, Bool.or_eq_false_iff, ne_eq, Classical.not_not] at hx); (first | (exfalso; omega) | (try simp (maxSteps := 1000000) (disch := omega) only [push_cast, go_sem, Nat.reduceEqDiff, ↓reduceIte, reduceCtorEq, Nat.reduceAdd, Nat.reduceSub, Nat.reduceLeDiff, Nat.reduceLT, Int.reduceLT, Int.reduceLE, Int.reduceEq, Int.reduceNeg, Nat.reduceMul, Int.reduceAdd, Int.reduceToNat, *])))
    | (with_reducible refine branch_t ?_; (try simp (maxSteps := 1000000) (disch := omega) only [push_cast, go_sem, Nat.reduceEqDiff, ↓reduceIte, reduceCtorEq, Nat.reduceAdd, Nat.reduceSub, Nat.reduceLeDiff, Nat.reduceLT, Int.reduceLT, Int.reduceLE, Int.reduceEq, Int.reduceNeg, Nat.reduceMul, Int.reduceAdd, Int.reduceToNat, *]))
    | (with_reducible refine branch_f ?_; (try simp (maxSteps := 1000000) (disch := omega) only [push_cast, go_sem, Nat.reduceEqDiff, ↓reduceIte, reduceCtorEq, Nat.reduceAdd, Nat.reduceSub, Nat.reduceLeDiff, Nat.reduceLT, Int.reduceLT, Int.reduceLE, Int.reduceEq, Int.reduceNeg, Nat.reduceMul, Int.reduceAdd, Int.reduceToNat, *]))
    | (with_reducible refine cond_split ?_ ?_)
    | (with_reducible refine guard_split ?_ ?_)
    | ((with_reducible refine drw_open 0 ?_); simp (maxSteps := 1000000) (disch := omega) only [push_cast, go_sem, Nat.reduceEqDiff, ↓reduceIte, reduceCtorEq, Nat.reduceAdd, Nat.reduceSub, Nat.reduceLeDiff, Nat.reduceLT, Int.reduceLT, Int.reduceLE, Int.reduceEq, Int.reduceNeg, Nat.reduceMul, Int.reduceAdd, Int.reduceToNat, *]; (with_reducible refine drw_id ?_))
    | ((with_reducible refine drw_open 1 ?_); simp (maxSteps := 1000000) (disch := omega) only [push_cast, go_sem, Nat.reduceEqDiff, ↓reduceIte, reduceCtorEq, Nat.reduceAdd, Nat.reduceSub, Nat.reduceLeDiff, Nat.reduceLT, Int.reduceLT, Int.reduceLE, Int.reduceEq, Int.reduceNeg, Nat.reduceMul, Int.reduceAdd, Int.reduceToNat, *]; (with_reducible refine drw_id ?_))
    | ((with_reducible refine drw_open 2 ?_); simp (maxSteps := 1000000) (disch := omega) only [push_cast, go_sem, Nat.reduceEqDiff, ↓reduceIte, reduceCtorEq, Nat.reduceAdd, Nat.reduceSub, Nat.reduceLeDiff, Nat.reduceLT, Int.reduceLT, Int.reduceLE, Int.reduceEq, Int.reduceNeg, Nat.reduceMul, Int.reduceAdd, Int.reduceToNat, *]; (with_reducible refine drw_id ?_))
    | ((with_reducible refine drw_intro ?_ ?_); (focus decide +kernel); (try simp (maxSteps := 1000000) (disch := omega) only [push_cast, go_sem, Nat.reduceEqDiff, ↓reduceIte, reduceCtorEq, Nat.reduceAdd, Nat.reduceSub, Nat.reduceLeDiff, Nat.reduceLT, Int.reduceLT, Int.reduceLE, Int.reduceEq, Int.reduceNeg, Nat.reduceMul, Int.reduceAdd, Int.reduceToNat, *]))
    | (with_reducible refine still_split ?_ ?_)
    | omega)
        all_goals first
          | (refine loop_end (i + 1, (i : Int) + 1) _ (by omega) ⟨by dsimp only; omega, .inr ⟨i, by omega, by dsimp only; omega, by rw [hg i (by omega)]; assumption, rfl⟩⟩ (by dsimp only; omega) (by simp (maxSteps := 1000000) (disch := omega) only [push_cast, go_sem, Nat.reduceEqDiff, ↓reduceIte, reduceCtorEq, Nat.reduceAdd, Nat.reduceSub, Nat.reduceLeDiff, Nat.reduceLT, Int.reduceLT, Int.reduceLE, Int.reduceEq, Int.reduceNeg, Nat.reduceMul, Int.reduceAdd, Int.reduceToNat, *]) (by simp (maxSteps := 1000000) (disch := omega) only [push_cast, go_sem, Nat.reduceEqDiff, ↓reduceIte, reduceCtorEq, Nat.reduceAdd, Nat.reduceSub, Nat.reduceLeDiff, Nat.reduceLT, Int.reduceLT, Int.reduceLE, Int.reduceEq, Int.reduceNeg, Nat.reduceMul, Int.reduceAdd, Int.reduceToNat, *]) (Nat.le_refl _))
          | (refine loop_end (i + 1, k) _ (by omega) ⟨by dsimp only; omega, keep (fun h h2 => by first | assumption | (exfalso; omega) | fail) hil⟩ (by dsimp only; omega) (by simp (maxSteps := 1000000) (disch := omega) only [push_cast, go_sem, Nat.reduceEqDiff, ↓reduceIte, reduceCtorEq, Nat.reduceAdd, Nat.reduceSub, Nat.reduceLeDiff, Nat.reduceLT, Int.reduceLT, Int.reduceLE, Int.reduceEq, Int.reduceNeg, Nat.reduceMul, Int.reduceAdd, Int.reduceToNat, *]) (by simp (maxSteps := 1000000) (disch := omega) only [push_cast, go_sem, Nat.reduceEqDiff, ↓reduceIte, reduceCtorEq, Nat.reduceAdd, Nat.reduceSub, Nat.reduceLeDiff, Nat.reduceLT, Int.reduceLT, Int.reduceLE, Int.reduceEq, Int.reduceNeg, Nat.reduceMul, Int.reduceAdd, Int.reduceToNat, *]) (Nat.le_refl _))
      · have hrk : k = r := isCode_uniq (hend (by omega)) hr
        subst hrk
        simp (maxSteps := 1000000) (disch := omega) only [push_cast, go_sem, Nat.reduceEqDiff, ↓reduceIte, reduceCtorEq, Nat.reduceAdd, Nat.reduceSub, Nat.reduceLeDiff, Nat.reduceLT, Int.reduceLT, Int.reduceLE, Int.reduceEq, Int.reduceNeg, Nat.reduceMul, Int.reduceAdd, Int.reduceToNat, *]
        repeat' (first
    | with_reducible refine And.intro ?_ ?_
    | (with_reducible intro hx; (try simp only [false_dec, true_dec, Int.ofNat_inj, gt_iff_lt, ge_iff_le, decide_eq_true_eq, decide_eq_false_iff_not, Bool.not_eq_true', Bool.not_eq_false', Bool.and_eq_true, Bool.or_eq_false_iff, ne_eq, Classical.not_not] at hx); (first | (exfalso; omega) | (try simp (maxSteps := 1000000) (disch := omega) only [push_cast, go_sem, Nat.reduceEqDiff, ↓reduceIte, reduceCtorEq, Nat.reduceAdd, Nat.reduceSub, Nat.reduceLeDiff, Nat.reduceLT, Int.reduceLT, Int.reduceLE, Int.reduceEq, Int.reduceNeg, Nat.reduceMul, Int.reduceAdd, Int.reduceToNat, *])))
    | (with_reducible refine branch_t ?_; (try simp (maxSteps := 1000000) (disch := omega) only [push_cast, go_sem, Nat.reduceEqDiff, ↓reduceIte, reduceCtorEq, Nat.reduceAdd, Nat.reduceSub, Nat.reduceLeDiff, Nat.reduceLT, Int.reduceLT, Int.reduceLE, Int.reduceEq, Int.reduceNeg, Nat.reduceMul, Int.reduceAdd, Int.reduceToNat, *]))
    | (with_reducible refine branch_f ?_; (try simp (maxSteps := 1000000) (disch := omega) only [push_cast, go_sem, Nat.reduceEqDiff, ↓reduceIte, reduceCtorEq, Nat.reduceAdd, Nat.reduceSub, Nat.reduceLeDiff, Nat.reduceLT, Int.reduceLT, Int.reduceLE, Int.reduceEq, Int.reduceNeg, Nat.reduceMul, Int.reduceAdd, Int.reduceToNat, *]))
    | (with_reducible refine cond_split ?_ ?_)
    | (with_reducible refine guard_split ?_ ?_)
    | ((with_reducible refine drw_open 0 ?_); simp (maxSteps := 1000000) (disch := omega) only [push_cast, go_sem, Nat.reduceEqDiff, ↓reduceIte, reduceCtorEq, Nat.reduceAdd, Nat.reduceSub, Nat.reduceLeDiff, Nat.reduceLT, Int.reduceLT, Int.reduceLE, Int.reduceEq, Int.reduceNeg, Nat.reduceMul, Int.reduceAdd, Int.reduceToNat, *]; (with_reducible refine drw_id ?_))
    | ((with_reducible refine drw_open 1 ?_); simp (maxSteps := 1000000) (disch := omega) only [push_cast, go_sem, Nat.reduceEqDiff, ↓reduceIte, reduceCtorEq, Nat.reduceAdd, Nat.reduceSub, Nat.reduceLeDiff, Nat.reduceLT, Int.reduceLT, Int.reduceLE, Int.reduceEq, Int.reduceNeg, Nat.reduceMul, Int.reduceAdd, Int.reduceToNat, *]; (with_reducible refine drw_id ?_))
    | ((with_reducible refine drw_open 2 ?_); simp (maxSteps := 1000000) (disch := omega) only [push_cast, go_sem, Nat.reduceEqDiff, ↓reduceIte, reduceCtorEq, Nat.reduceAdd, Nat.reduceSub, Nat.reduceLeDiff, Nat.reduceLT, Int.reduceLT, Int.reduceLE, Int.reduceEq, Int.reduceNeg, Nat.reduceMul, Int.reduceAdd, Int.reduceToNat, *]; (with_reducible refine drw_id ?_))
    | ((with_reducible refine drw_intro ?_ ?_); (focus decide +kernel); (try simp (maxSteps := 1000000) (disch := omega) only [push_cast, go_sem, Nat.reduceEqDiff, ↓reduceIte, reduceCtorEq, Nat.reduceAdd, Nat.reduceSub, Nat.reduceLeDiff, Nat.reduceLT, Int.reduceLT, Int.reduceLE, Int.reduceEq, Int.reduceNeg, Nat.reduceMul, Int.reduceAdd, Int.reduceToNat, *]))
    | (with_reducible refine still_split ?_ ?_)
    | ((with_reducible refine call_by2 [] (code_spec _ hr) (by first | (refine ⟨?_, ?_, ?_, ?_⟩ <;> ((try simp (maxSteps := 1000000) (disch := omega) only [push_cast, go_sem, Nat.reduceEqDiff, ↓reduceIte, reduceCtorEq, Nat.reduceAdd, Nat.reduceSub, Nat.reduceLeDiff, Nat.reduceLT, Int.reduceLT, Int.reduceLE, Int.reduceEq, Int.reduceNeg, Nat.reduceMul, Int.reduceAdd, Int.reduceToNat, *]); (try rfl); (try omega); done)) | fail) ?_) <;> (try simp (maxSteps := 1000000) (disch := omega) only [push_cast, go_sem, Nat.reduceEqDiff, ↓reduceIte, reduceCtorEq, Nat.reduceAdd, Nat.reduceSub, Nat.reduceLeDiff, Nat.reduceLT, Int.reduceLT, Int.reduceLE, Int.reduceEq, Int.reduceNeg, Nat.reduceMul, Int.reduceAdd, Int.reduceToNat, *]))
    | ((with_reducible refine call_by2 [] (awake19_spec) (by first | (refine ⟨?_, ?_, ?_, ?_⟩ <;> ((try simp (maxSteps := 1000000) (disch := omega) only [push_cast, go_sem, Nat.reduceEqDiff, ↓reduceIte, reduceCtorEq, Nat.reduceAdd, Nat.reduceSub, Nat.reduceLeDiff, Nat.reduceLT, Int.reduceLT, Int.reduceLE, Int.reduceEq, Int.reduceNeg, Nat.reduceMul, Int.reduceAdd, Int.reduceToNat, *]); (try rfl); (try omega); done)) | fail) ?_) <;> (try simp (maxSteps := 1000000) (disch := omega) only [push_cast, go_sem, Nat.reduceEqDiff, ↓reduceIte, reduceCtorEq, Nat.reduceAdd, Nat.reduceSub, Nat.reduceLeDiff, Nat.reduceLT, Int.reduceLT, Int.reduceLE, Int.reduceEq, Int.reduceNeg, Nat.reduceMul, Int.reduceAdd, Int.reduceToNat, *]))
    | omega)
    · have hg : ∀ (i : Nat) (h : i < W.length), W.getD i [] = W[i] := fun i h => by rw [List.getD_eq_getElem?_getD, List.getElem?_eq_getElem h]; rfl
      obtain ⟨r, hr⟩ := hcodes wd
      refine loop_by (σ := Nat × Int) (fun x N => ([(41, .int .i64 x.1), (40, .int .i64 37), (39, .row 1 37 0 37), (6, .int .i64 x.2), (4, .bool false), (0, .int .i64 code), (1, .str (ofL wd))], [(1, .row 1 (W.map encS) false)]))
        (fun x => x.1 ≤ 37 ∧ ((x.2 = 0 ∧ ∀ j : Nat, 2 ≤ j → j < x.1 → W.getD j [] ≠ wd) ∨ ∃ j : Nat, 2 ≤ j ∧ j < x.1 ∧ W.getD j [] = wd ∧ x.2 = j + 1)) (fun x => 37 - x.1) (0, 0) _ ⟨by simp, .inl ⟨rfl, fun j h1 h2 => by dsimp only at h2; omega⟩⟩ (by simp (maxSteps := 1000000) (disch := omega) only [push_cast, go_sem, Nat.reduceEqDiff, ↓reduceIte, reduceCtorEq, Nat.reduceAdd, Nat.reduceSub, Nat.reduceLeDiff, Nat.reduceLT, Int.reduceLT, Int.reduceLE, Int.reduceEq, Int.reduceNeg, Nat.reduceMul, Int.reduceAdd, Int.reduceToNat, *]) (by simp (maxSteps := 1000000) (disch := omega) only [push_cast, go_sem, Nat.reduceEqDiff, ↓reduceIte, reduceCtorEq, Nat.reduceAdd, Nat.reduceSub, Nat.reduceLeDiff, Nat.reduceLT, Int.reduceLT, Int.reduceLE, Int.reduceEq, Int.reduceNeg, Nat.reduceMul, Int.reduceAdd, Int.reduceToNat, *]) (Nat.le_refl _) ?_
      rintro ⟨i, k⟩ N hN ⟨hi, hk⟩
      dsimp only at hi hk
      have keep : (∀ h : i < W.length, 2 ≤ i → W[i] ≠ wd) → i < 37 → ((k = 0 ∧ ∀ j : Nat, 2 ≤ j → j < i + 1 → W.getD j [] ≠ wd) ∨ ∃ j : Nat, 2 ≤ j ∧ j < i + 1 ∧ W.getD j [] = wd ∧ k = j + 1) := fun h hi37 => by
        rcases hk with ⟨h1, h2⟩ | ⟨j, h1, h2, h3, h4⟩
        · refine .inl ⟨h1, fun j h3 h4 => ?_⟩
          rcases Nat.lt_or_ge j i with h5 | h5
          · exact h2 j h3 h5
          · obtain rfl : j = i := by omega
            rw [hg j (by omega)]; exact h (by omega) h3
        · exact .inr ⟨j, h1, by omega, h3, h4⟩
      have hend : i = 37 → IsCode wd k := fun e => by subst e; rw [IsCode, hW]; exact hk
      clear hk
      dsimp only
      by_cases hil : i < 37
      · simp (maxSteps := 1000000) (disch := omega) only [push_cast, go_sem, Nat.reduceEqDiff, ↓reduceIte, reduceCtorEq, Nat.reduceAdd, Nat.reduceSub, Nat.reduceLeDiff, Nat.reduceLT, Int.reduceLT, Int.reduceLE, Int.reduceEq, Int.reduceNeg, Nat.reduceMul, Int.reduceAdd, Int.reduceToNat, *]
        repeat' (first
    | with_reducible refine And.intro ?_ ?_
    | (with_reducible intro hx; (try simp only [false_dec, true_dec, Int.ofNat_inj, gt_iff_lt, ge_iff_le, decide_eq_true_eq, decide_eq_false_iff_not, Bool.not_eq_true', Bool.not_eq_false', Bool.and_eq_true, Bool.or_eq_false_iff, ne_eq, Classical.not_not] at hx); (first | (exfalso; omega) | (try simp (maxSteps := 1000000) (disch := omega) only [push_cast, go_sem, Nat.reduceEqDiff, ↓reduceIte, reduceCtorEq, Nat.reduceAdd, Nat.reduceSub, Nat.reduceLeDiff, Nat.reduceLT, Int.reduceLT, Int.reduceLE, Int.reduceEq, Int.reduceNeg, Nat.reduceMul, Int.reduceAdd, Int.reduceToNat, *])))
    | (with_reducible refine branch_t ?_; (try simp (maxSteps := 1000000) (disch := omega) only [push_cast, go_sem, Nat.reduceEqDiff, ↓reduceIte, reduceCtorEq, Nat.reduceAdd, Nat.reduceSub, Nat.reduceLeDiff, Nat.reduceLT, Int.reduceLT, Int.reduceLE, Int.reduceEq, Int.reduceNeg, Nat.reduceMul, Int.reduceAdd, Int.reduceToNat, *]))
    | (with_reducible refine branch_f ?_; (try simp (maxSteps := 1000000) (disch := omega) only [push_cast, go_sem, Nat.reduceEqDiff, ↓reduceIte, reduceCtorEq, Nat.reduceAdd, Nat.reduceSub, Nat.reduceLeDiff, Nat.reduceLT, Int.reduceLT, Int.reduceLE, Int.reduceEq, Int.reduceNeg, Nat.reduceMul, Int.reduceAdd, Int.reduceToNat, *]))
    | (with_reducible refine cond_split ?_ ?_)
    | (with_reducible refine guard_split ?_ ?_)
    | ((with_reducible refine drw_open 0 ?_); simp (maxSteps := 1000000) (disch := omega) only [push_cast, go_sem, Nat.reduceEqDiff, ↓reduceIte, reduceCtorEq, Nat.reduceAdd, Nat.reduceSub, Nat.reduceLeDiff, Nat.reduceLT, Int.reduceLT, Int.reduceLE, Int.reduceEq, Int.reduceNeg, Nat.reduceMul, Int.reduceAdd, Int.reduceToNat, *]; (with_reducible refine drw_id ?_))
    | ((with_reducible refine drw_open 1 ?_); simp (maxSteps := 1000000) (disch := omega) only [push_cast, go_sem, Nat.reduceEqDiff, ↓reduceIte, reduceCtorEq, Nat.reduceAdd, Nat.reduceSub, Nat.reduceLeDiff, Nat.reduceLT, Int.reduceLT, Int.reduceLE, Int.reduceEq, Int.reduceNeg, Nat.reduceMul, Int.reduceAdd, Int.reduceToNat, *]; (with_reducible refine drw_id ?_))
    | ((with_reducible refine drw_open 2 ?_); simp (maxSteps := 1000000) (disch := omega) only [push_cast, go_sem, Nat.reduceEqDiff, ↓reduceIte, reduceCtorEq, Nat.reduceAdd, Nat.reduceSub, Nat.reduceLeDiff, Nat.reduceLT, Int.reduceLT, Int.reduceLE, Int.reduceEq, Int.reduceNeg, Nat.reduceMul, Int.reduceAdd, Int.reduceToNat, *]; (with_reducible refine drw_id ?_))
    | ((with_reducible refine drw_intro ?_ ?_); (focus decide +kernel); (try simp (maxSteps := 1000000) (disch := omega) only [push_cast, go_sem, Nat.reduceEqDiff, ↓reduceIte, reduceCtorEq, Nat.reduceAdd, Nat.reduceSub, Nat.reduceLeDiff, Nat.reduceLT, Int.reduceLT, Int.reduceLE, Int.reduceEq, Int.reduceNeg, Nat.reduceMul, Int.reduceAdd, Int.reduceToNat, *]))
    | (with_reducible refine still_split ?_ ?_)
    | omega)
        all_goals first
          | (refine loop_end (i + 1, (i : Int) + 1) _ (by omega) ⟨by dsimp only; omega, .inr ⟨i, by omega, by dsimp only; omega, by rw [hg i (by omega)]; assumption, rfl⟩⟩ (by dsimp only; omega) (by simp (maxSteps := 1000000) (disch := omega) only [push_cast, go_sem, Nat.reduceEqDiff, ↓reduceIte, reduceCtorEq, Nat.reduceAdd, Nat.reduceSub, Nat.reduceLeDiff, Nat.reduceLT, Int.reduceLT, Int.reduceLE, Int.reduceEq, Int.reduceNeg, Nat.reduceMul, Int.reduceAdd, Int.reduceToNat, *]) (by simp (maxSteps := 1000000) (disch := omega) only [push_cast, go_sem, Nat.reduceEqDiff, ↓reduceIte, reduceCtorEq, Nat.reduceAdd, Nat.reduceSub, Nat.reduceLeDiff, Nat.reduceLT, Int.reduceLT, Int.reduceLE, Int.reduceEq, Int.reduceNeg, Nat.reduceMul, Int.reduceAdd, Int.reduceToNat, *]) (Nat.le_refl _))
          | (refine loop_end (i + 1, k) _ (by omega) ⟨by dsimp only; omega, keep (fun h h2 => by first | assumption | (exfalso; omega) | fail) hil⟩ (by dsimp only; omega) (by simp (maxSteps := 1000000) (disch := omega) only [push_cast, go_sem, Nat.reduceEqDiff, ↓reduceIte, reduceCtorEq, Nat.reduceAdd, Nat.reduceSub, Nat.reduceLeDiff, Nat.reduceLT, Int.reduceLT, Int.reduceLE, Int.reduceEq, Int.reduceNeg, Nat.reduceMul, Int.reduceAdd, Int.reduceToNat, *]) (by simp (maxSteps := 1000000) (disch := omega) only [push_cast, go_sem, Nat.reduceEqDiff, ↓reduceIte, reduceCtorEq, Nat.reduceAdd, Nat.reduceSub, Nat.reduceLeDiff, Nat.reduceLT, Int.reduceLT, Int.reduceLE, Int.reduceEq, Int.reduceNeg, Nat.reduceMul, Int.reduceAdd, Int.reduceToNat, *]) (Nat.le_refl _))
      · have hrk : k = r := isCode_uniq (hend (by omega)) hr
        subst hrk
        simp (maxSteps := 1000000) (disch := omega) only [push_cast, go_sem, Nat.reduceEqDiff, ↓reduceIte, reduceCtorEq, Nat.reduceAdd, Nat.reduceSub, Nat.reduceLeDiff, Nat.reduceLT, Int.reduceLT, Int.reduceLE, Int.reduceEq, Int.reduceNeg, Nat.reduceMul, Int.reduceAdd, Int.reduceToNat, *]
        repeat' (first
    | with_reducible refine And.intro ?_ ?_
    | (with_reducible intro hx; (try simp only [false_dec, true_dec, Int.ofNat_inj, gt_iff_lt, ge_iff_le, decide_eq_true_eq, decide_eq_false_iff_not, Bool.not_eq_true', Bool.not_eq_false', Bool.and_eq_true, Bool.or_eq_false_iff, ne_eq, Classical.not_not] at hx); (first | (exfalso; omega) | (try simp (maxSteps := 1000000) (disch := omega) only [push_cast, go_sem, Nat.reduceEqDiff, ↓reduceIte, reduceCtorEq, Nat.reduceAdd, Nat.reduceSub, Nat.reduceLeDiff, Nat.reduceLT, Int.reduceLT, Int.reduceLE, Int.reduceEq, Int.reduceNeg, Nat.reduceMul, Int.reduceAdd, Int.reduceToNat, *])))
    | (with_reducible refine branch_t ?_; (try simp (maxSteps := 1000000) (disch := omega) only [push_cast, go_sem, Nat.reduceEqDiff, ↓reduceIte, reduceCtorEq, Nat.reduceAdd, Nat.reduceSub, Nat.reduceLeDiff, Nat.reduceLT, Int.reduceLT, Int.reduceLE, Int.reduceEq, Int.reduceNeg, Nat.reduceMul, Int.reduceAdd, Int.reduceToNat, *]))
    | (with_reducible refine branch_f ?_; (try simp (maxSteps := 1000000) (disch := omega) only [push_cast, go_sem, Nat.reduceEqDiff, ↓reduceIte, reduceCtorEq, Nat.reduceAdd, Nat.reduceSub, Nat.reduceLeDiff, Nat.reduceLT, Int.reduceLT, Int.reduceLE, Int.reduceEq, Int.reduceNeg, Nat.reduceMul, Int.reduceAdd, Int.reduceToNat, *]))
    | (with_reducible refine cond_split ?_ ?_)
    | (with_reducible refine guard_split ?_ ?_)
    | ((with_reducible refine drw_open 0 ?_); simp (maxSteps := 1000000) (disch := omega) only [push_cast, go_sem, Nat.reduceEqDiff, ↓reduceIte, reduceCtorEq, Nat.reduceAdd, Nat.reduceSub, Nat.reduceLeDiff, Nat.reduceLT, Int.reduceLT, Int.reduceLE, Int.reduceEq, Int.reduceNeg, Nat.reduceMul, Int.reduceAdd, Int.reduceToNat, *]; (with_reducible refine drw_id ?_))
    | ((with_reducible refine drw_open 1 ?_); simp (maxSteps := 1000000) (disch := omega) only [push_cast, go_sem, Nat.reduceEqDiff, ↓reduceIte, reduceCtorEq, Nat.reduceAdd, Nat.reduceSub, Nat.reduceLeDiff, Nat.reduceLT, Int.reduceLT, Int.reduceLE, Int.reduceEq, Int.reduceNeg, Nat.reduceMul, Int.reduceAdd, Int.reduceToNat, *]; (with_reducible refine drw_id ?_))
    | ((with_reducible refine drw_open 2 ?_); simp (maxSteps := 1000000) (disch := omega) only [push_cast, go_sem, Nat.reduceEqDiff, ↓reduceIte, reduceCtorEq, Nat.reduceAdd, Nat.reduceSub, Nat.reduceLeDiff, Nat.reduceLT, Int.reduceLT, Int.reduceLE, Int.reduceEq, Int.reduceNeg, Nat.reduceMul, Int.reduceAdd, Int.reduceToNat, *]; (with_reducible refine drw_id ?_))
    | ((with_reducible refine drw_intro ?_ ?_); (focus decide +kernel); (try simp (maxSteps := 1000000) (disch := omega) only [push_cast, go_sem, Nat.reduceEqDiff, ↓reduceIte, reduceCtorEq, Nat.reduceAdd, Nat.reduceSub, Nat.reduceLeDiff, Nat.reduceLT, Int.reduceLT, Int.reduceLE, Int.reduceEq, Int.reduceNeg, Nat.reduceMul, Int.reduceAdd, Int.reduceToNat, *]))
    | (with_reducible refine still_split ?_ ?_)
    | ((with_reducible refine call_by2 [] (code_spec _ hr) (by first | (refine ⟨?_, ?_, ?_, ?_⟩ <;> ((try simp (maxSteps := 1000000) (disch := omega) only [push_cast, go_sem, Nat.reduceEqDiff, ↓reduceIte, reduceCtorEq, Nat.reduceAdd, Nat.reduceSub, Nat.reduceLeDiff, Nat.reduceLT, Int.reduceLT, Int.reduceLE, Int.reduceEq, Int.reduceNeg, Nat.reduceMul, Int.reduceAdd, Int.reduceToNat, *]); (try rfl); (try omega); done)) | fail) ?_) <;> (try simp (maxSteps := 1000000) (disch := omega) only [push_cast, go_sem, Nat.reduceEqDiff, ↓reduceIte, reduceCtorEq, Nat.reduceAdd, Nat.reduceSub, Nat.reduceLeDiff, Nat.reduceLT, Int.reduceLT, Int.reduceLE, Int.reduceEq, Int.reduceNeg, Nat.reduceMul, Int.reduceAdd, Int.reduceToNat, *]))
    | ((with_reducible refine call_by2 [] (awake19_spec) (by first | (refine ⟨?_, ?_, ?_, ?_⟩ <;> ((try simp (maxSteps := 1000000) (disch := omega) only [push_cast, go_sem, Nat.reduceEqDiff, ↓reduceIte, reduceCtorEq, Nat.reduceAdd, Nat.reduceSub, Nat.reduceLeDiff, Nat.reduceLT, Int.reduceLT, Int.reduceLE, Int.reduceEq, Int.reduceNeg, Nat.reduceMul, Int.reduceAdd, Int.reduceToNat, *]); (try rfl); (try omega); done)) | fail) ?_) <;> (try simp (maxSteps := 1000000) (disch := omega) only [push_cast, go_sem, Nat.reduceEqDiff, ↓reduceIte, reduceCtorEq, Nat.reduceAdd, Nat.reduceSub, Nat.reduceLeDiff, Nat.reduceLT, Int.reduceLT, Int.reduceLE, Int.reduceEq, Int.reduceNeg, Nat.reduceMul, Int.reduceAdd, Int.reduceToNat, *]))
    | omega)
    · have hg : ∀ (i : Nat) (h : i < W.length), W.getD i [] = W[i] := fun i h => by rw [List.getD_eq_getElem?_getD, List.getElem?_eq_getElem h]; rfl
      obtain ⟨r, hr⟩ := hcodes word
      refine loop_by (σ := Nat × Int) (fun x N => ([(41, .int .i64 x.1), (40, .int .i64 37), (39, .row 1 37 0 37), (6, .int .i64 x.2), (4, .bool false), (0, .int .i64 code), (1, .str (ofL word))], [(1, .row 1 (W.map encS) false)]))
        (fun x => x.1 ≤ 37 ∧ ((x.2 = 0 ∧ ∀ j : Nat, 2 ≤ j → j < x.1 → W.getD j [] ≠ word) ∨ ∃ j : Nat, 2 ≤ j ∧ j < x.1 ∧ W.getD j [] = word ∧ x.2 = j + 1)) (fun x => 37 - x.1) (0, 0) _ ⟨by simp, .inl ⟨rfl, fun j h1 h2 => by dsimp only at h2; omega⟩⟩ (by simp (maxSteps := 1000000) (disch := omega) only [push_cast, go_sem, Nat.reduceEqDiff, ↓reduceIte, reduceCtorEq, Nat.reduceAdd, Nat.reduceSub, Nat.reduceLeDiff, Nat.reduceLT, Int.reduceLT, Int.reduceLE, Int.reduceEq, Int.reduceNeg, Nat.reduceMul, Int.reduceAdd, Int.reduceToNat, *]) (by simp (maxSteps := 1000000) (disch := omega) only [push_cast, go_sem, Nat.reduceEqDiff, ↓reduceIte, reduceCtorEq, Nat.reduceAdd, Nat.reduceSub, Nat.reduceLeDiff, Nat.reduceLT, Int.reduceLT, Int.reduceLE, Int.reduceEq, Int.reduceNeg, Nat.reduceMul, Int.reduceAdd, Int.reduceToNat, *]) (Nat.le_refl _) ?_
      rintro ⟨i, k⟩ N hN ⟨hi, hk⟩
      dsimp only at hi hk
      have keep : (∀ h : i < W.length, 2 ≤ i → W[i] ≠ word) → i < 37 → ((k = 0 ∧ ∀ j : Nat, 2 ≤ j → j < i + 1 → W.getD j [] ≠ word) ∨ ∃ j : Nat, 2 ≤ j ∧ j < i + 1 ∧ W.getD j [] = word ∧ k = j + 1) := fun h hi37 => by
        rcases hk with ⟨h1, h2⟩ | ⟨j, h1, h2, h3, h4⟩
        · refine .inl ⟨h1, fun j h3 h4 => ?_⟩
          rcases Nat.lt_or_ge j i with h5 | h5
          · exact h2 j h3 h5
          · obtain rfl : j = i := by omega
            rw [hg j (by omega)]; exact h (by omega) h3
        · exact .inr ⟨j, h1, by omega, h3, h4⟩
      have hend : i = 37 → IsCode word k := fun e => by subst e; rw [IsCode, hW]; exact hk
      clear hk
      dsimp only
      by_cases hil : i < 37
      · simp (maxSteps := 1000000) (disch := omega) only [push_cast, go_sem, Nat.reduceEqDiff, ↓reduceIte, reduceCtorEq, Nat.reduceAdd, Nat.reduceSub, Nat.reduceLeDiff, Nat.reduceLT, Int.reduceLT, Int.reduceLE, Int.reduceEq, Int.reduceNeg, Nat.reduceMul, Int.reduceAdd, Int.reduceToNat, *]
        repeat' (first
    | with_reducible refine And.intro ?_ ?_
    | (with_reducible intro hx; (try simp only [false_dec, true_dec, Int.ofNat_inj, gt_iff_lt, ge_iff_le, decide_eq_true_eq, decide_eq_false_iff_not, Bool.not_eq_true', Bool.not_eq_false', Bool.and_eq_true, Bool.or_eq_false_iff, ne_eq, Classical.not_not] at hx); (first | (exfalso; omega) | (try simp (maxSteps := 1000000) (disch := omega) only [push_cast, go_sem, Nat.reduceEqDiff, ↓reduceIte, reduceCtorEq, Nat.reduceAdd, Nat.reduceSub, Nat.reduceLeDiff, Nat.reduceLT, Int.reduceLT, Int.reduceLE, Int.reduceEq, Int.reduceNeg, Nat.reduceMul, Int.reduceAdd, Int.reduceToNat, *])))
    | (with_reducible refine branch_t ?_; (try simp (maxSteps := 1000000) (disch := omega) only [push_cast, go_sem, Nat.reduceEqDiff, ↓reduceIte, reduceCtorEq, Nat.reduceAdd, Nat.reduceSub, Nat.reduceLeDiff, Nat.reduceLT, Int.reduceLT, Int.reduceLE, Int.reduceEq, Int.reduceNeg, Nat.reduceMul, Int.reduceAdd, Int.reduceToNat, *]))
    | (with_reducible refine branch_f ?_; (try simp (maxSteps := 1000000) (disch := omega) only [push_cast, go_sem, Nat.reduceEqDiff, ↓reduceIte, reduceCtorEq, Nat.reduceAdd, Nat.reduceSub, Nat.reduceLeDiff, Nat.reduceLT, Int.reduceLT, Int.reduceLE, Int.reduceEq, Int.reduceNeg, Nat.reduceMul, Int.reduceAdd, Int.reduceToNat, *]))
    | (with_reducible refine cond_split ?_ ?_)
    | (with_reducible refine guard_split ?_ ?_)
    | ((with_reducible refine drw_open 0 ?_); simp (maxSteps := 1000000) (disch := omega) only [push_cast, go_sem, Nat.reduceEqDiff, ↓reduceIte, reduceCtorEq, Nat.reduceAdd, Nat.reduceSub, Nat.reduceLeDiff, Nat.reduceLT, Int.reduceLT, Int.reduceLE, Int.reduceEq, Int.reduceNeg, Nat.reduceMul, Int.reduceAdd, Int.reduceToNat, *]; (with_reducible refine drw_id ?_))
    | ((with_reducible refine drw_open 1 ?_); simp (maxSteps := 1000000) (disch := omega) only [push_cast, go_sem, Nat.reduceEqDiff, ↓reduceIte, reduceCtorEq, Nat.reduceAdd, Nat.reduceSub, Nat.reduceLeDiff, Nat.reduceLT, Int.reduceLT, Int.reduceLE, Int.reduceEq, Int.reduceNeg, Nat.reduceMul, Int.reduceAdd, Int.reduceToNat, *]; (with_reducible refine drw_id ?_))
    | ((with_reducible refine drw_open 2 ?_); simp (maxSteps := 1000000) (disch := omega) only [push_cast, go_sem, Nat.reduceEqDiff, ↓reduceIte, reduceCtorEq, Nat.reduceAdd, Nat.reduceSub, Nat.reduceLeDiff, Nat.reduceLT, Int.reduceLT, Int.reduceLE, Int.reduceEq, Int.reduceNeg, Nat.reduceMul, Int.reduceAdd, Int.reduceToNat, *]; (with_reducible refine drw_id ?_))
    | ((with_reducible refine drw_intro ?_ ?_); (focus decide +kernel); (try simp (maxSteps := 1000000) (disch := omega) only [push_cast, go_sem, Nat.reduceEqDiff, ↓reduceIte, reduceCtorEq, Nat.reduceAdd, Nat.reduceSub, Nat.reduceLeDiff, Nat.reduceLT, Int.reduceLT, Int.reduceLE, Int.reduceEq, Int.reduceNeg, Nat.reduceMul, Int.reduceAdd, Int.reduceToNat, *]))
    | (with_reducible refine still_split ?_ ?_)
    | omega)
        all_goals first
          | (refine loop_end (i + 1, (i : Int) + 1) _ (by omega) ⟨by dsimp only; omega, .inr ⟨i, by omega, by dsimp only; omega, by rw [hg i (by omega)]; assumption, rfl⟩⟩ (by dsimp only; omega) (by simp (maxSteps := 1000000) (disch := omega) only [push_cast, go_sem, Nat.reduceEqDiff, ↓reduceIte, reduceCtorEq, Nat.reduceAdd, Nat.reduceSub, Nat.reduceLeDiff, Nat.reduceLT, Int.reduceLT, Int.reduceLE, Int.reduceEq, Int.reduceNeg, Nat.reduceMul, Int.reduceAdd, Int.reduceToNat, *]) (by simp (maxSteps := 1000000) (disch := omega) only [push_cast, go_sem, Nat.reduceEqDiff, ↓reduceIte, reduceCtorEq, Nat.reduceAdd, Nat.reduceSub, Nat.reduceLeDiff, Nat.reduceLT, Int.reduceLT, Int.reduceLE, Int.reduceEq, Int.reduceNeg, Nat.reduceMul, Int.reduceAdd, Int.reduceToNat, *]) (Nat.le_refl _))
          | (refine loop_end (i + 1, k) _ (by omega) ⟨by dsimp only; omega, keep (fun h h2 => by first | assumption | (exfalso; omega) | fail) hil⟩ (by dsimp only; omega) (by simp (maxSteps := 1000000) (disch := omega) only [push_cast, go_sem, Nat.reduceEqDiff, ↓reduceIte, reduceCtorEq, Nat.reduceAdd, Nat.reduceSub, Nat.reduceLeDiff, Nat.reduceLT, Int.reduceLT, Int.reduceLE, Int.reduceEq, Int.reduceNeg, Nat.reduceMul, Int.reduceAdd, Int.reduceToNat, *]) (by simp (maxSteps := 1000000) (disch := omega) only [push_cast, go_sem, Nat.reduceEqDiff, ↓reduceIte, reduceCtorEq, Nat.reduceAdd, Nat.reduceSub, Nat.reduceLeDiff, Nat.reduceLT, Int.reduceLT, Int.reduceLE, Int.reduceEq, Int.reduceNeg, Nat.reduceMul, Int.reduceAdd, Int.reduceToNat, *]) (Nat.le_refl _))
      · have hrk : k = r := isCode_uniq (hend (by omega)) hr
        subst hrk
        simp (maxSteps := 1000000) (disch := omega) only [push_cast, go_sem, Nat.reduceEqDiff, ↓reduceIte, reduceCtorEq, Nat.reduceAdd, Nat.reduceSub, Nat.reduceLeDiff, Nat.reduceLT, Int.reduceLT, Int.reduceLE, Int.reduceEq, Int.reduceNeg, Nat.reduceMul, Int.reduceAdd, Int.reduceToNat, *]
        repeat' (first
    | with_reducible refine And.intro ?_ ?_
    | (with_reducible intro hx; (try simp only [false_dec, true_dec, Int.ofNat_inj, gt_iff_lt, ge_iff_le, decide_eq_true_eq, decide_eq_false_iff_not, Bool.not_eq_true', Bool.not_eq_false', Bool.and_eq_true, Bool.or_eq_false_iff, ne_eq, Classical.not_not] at hx); (first | (exfalso; omega) | (try simp (maxSteps := 1000000) (disch := omega) only [push_cast, go_sem, Nat.reduceEqDiff, ↓reduceIte, reduceCtorEq, Nat.reduceAdd, Nat.reduceSub, Nat.reduceLeDiff, Nat.reduceLT, Int.reduceLT, Int.reduceLE, Int.reduceEq, Int.reduceNeg, Nat.reduceMul, Int.reduceAdd, Int.reduceToNat, *])))
    | (with_reducible refine branch_t ?_; (try simp (maxSteps := 1000000) (disch := omega) only [push_cast, go_sem, Nat.reduceEqDiff, ↓reduceIte, reduceCtorEq, Nat.reduceAdd, Nat.reduceSub, Nat.reduceLeDiff, Nat.reduceLT, Int.reduceLT, Int.reduceLE, Int.reduceEq, Int.reduceNeg, Nat.reduceMul, Int.reduceAdd, Int.reduceToNat, *]))
    | (with_reducible refine branch_f ?_; (try simp (maxSteps := 1000000) (disch := omega) only [push_cast, go_sem, Nat.reduceEqDiff, ↓reduceIte, reduceCtorEq, Nat.reduceAdd, Nat.reduceSub, Nat.reduceLeDiff, Nat.reduceLT, Int.reduceLT, Int.reduceLE, Int.reduceEq, Int.reduceNeg, Nat.reduceMul, Int.reduceAdd, Int.reduceToNat, *]))
    | (with_reducible refine cond_split ?_ ?_)
    | (with_reducible refine guard_split ?_ ?_)
    | ((with_reducible refine drw_open 0 ?_); simp (maxSteps := 1000000) (disch := omega) only [push_cast, go_sem, Nat.reduceEqDiff, ↓reduceIte, reduceCtorEq, Nat.reduceAdd, Nat.reduceSub, Nat.reduceLeDiff, Nat.reduceLT, Int.reduceLT, Int.reduceLE, Int.reduceEq, Int.reduceNeg, Nat.reduceMul, Int.reduceAdd, Int.reduceToNat, *]; (with_reducible refine drw_id ?_))
    | ((with_reducible refine drw_open 1 ?_); simp (maxSteps := 1000000) (disch := omega) only [push_cast, go_sem, Nat.reduceEqDiff, ↓reduceIte, reduceCtorEq, Nat.reduceAdd, Nat.reduceSub, Nat.reduceLeDiff, Nat.reduceLT, Int.reduceLT, Int.reduceLE, Int.reduceEq, Int.reduceNeg, Nat.reduceMul, Int.reduceAdd, Int.reduceToNat, *]; (with_reducible refine drw_id ?_))
    | ((with_reducible refine drw_open 2 ?_); simp (maxSteps := 1000000) (disch := omega) only [push_cast, go_sem, Nat.reduceEqDiff, ↓reduceIte, reduceCtorEq, Nat.reduceAdd, Nat.reduceSub, Nat.reduceLeDiff, Nat.reduceLT, Int.reduceLT, Int.reduceLE, Int.reduceEq, Int.reduceNeg, Nat.reduceMul, Int.reduceAdd, Int.reduceToNat, *]; (with_reducible refine drw_id ?_))
    | ((with_reducible refine drw_intro ?_ ?_); (focus decide +kernel); (try simp (maxSteps := 1000000) (disch := omega) only [push_cast, go_sem, Nat.reduceEqDiff, ↓reduceIte, reduceCtorEq, Nat.reduceAdd, Nat.reduceSub, Nat.reduceLeDiff, Nat.reduceLT, Int.reduceLT, Int.reduceLE, Int.reduceEq, Int.reduceNeg, Nat.reduceMul, Int.reduceAdd, Int.reduceToNat, *]))
    | (with_reducible refine still_split ?_ ?_)
    | ((with_reducible refine call_by2 [] (code_spec _ hr) (by first | (refine ⟨?_, ?_, ?_, ?_⟩ <;> ((try simp (maxSteps := 1000000) (disch := omega) only [push_cast, go_sem, Nat.reduceEqDiff, ↓reduceIte, reduceCtorEq, Nat.reduceAdd, Nat.reduceSub, Nat.reduceLeDiff, Nat.reduceLT, Int.reduceLT, Int.reduceLE, Int.reduceEq, Int.reduceNeg, Nat.reduceMul, Int.reduceAdd, Int.reduceToNat, *]); (try rfl); (try omega); done)) | fail) ?_) <;> (try simp (maxSteps := 1000000) (disch := omega) only [push_cast, go_sem, Nat.reduceEqDiff, ↓reduceIte, reduceCtorEq, Nat.reduceAdd, Nat.reduceSub, Nat.reduceLeDiff, Nat.reduceLT, Int.reduceLT, Int.reduceLE, Int.reduceEq, Int.reduceNeg, Nat.reduceMul, Int.reduceAdd, Int.reduceToNat, *]))
    | ((with_reducible refine call_by2 [] (awake19_spec) (by first | (refine ⟨?_, ?_, ?_, ?_⟩ <;> ((try simp (maxSteps := 1000000) (disch := omega) only [push_cast, go_sem, Nat.reduceEqDiff, ↓reduceIte, reduceCtorEq, Nat.reduceAdd, Nat.reduceSub, Nat.reduceLeDiff, Nat.reduceLT, Int.reduceLT, Int.reduceLE, Int.reduceEq, Int.reduceNeg, Nat.reduceMul, Int.reduceAdd, Int.reduceToNat, *]); (try rfl); (try omega); done)) | fail) ?_) <;> (try simp (maxSteps := 1000000) (disch := omega) only [push_cast, go_sem, Nat.reduceEqDiff, ↓reduceIte, reduceCtorEq, Nat.reduceAdd, Nat.reduceSub, Nat.reduceLeDiff, Nat.reduceLT, Int.reduceLT, Int.reduceLE, Int.reduceEq, Int.reduceNeg, Nat.reduceMul, Int.reduceAdd, Int.reduceToNat, *]))
    | omega)
    · have hg : ∀ (i : Nat) (h : i < W.length), W.getD i [] = W[i] := fun i h => by rw [List.getD_eq_getElem?_getD, List.getElem?_eq_getElem h]; rfl
      obtain ⟨r, hr⟩ := hcodes word
      refine loop_by (σ := Nat × Int) (fun x N => ([(41, .int .i64 x.1), (40, .int .i64 37), (39, .row 1 37 0 37), (6, .int .i64 x.2), (4, .bool false), (0, .int .i64 code), (1, .str (ofL word))], [(1, .row 1 (W.map encS) false)]))
        (fun x => x.1 ≤ 37 ∧ ((x.2 = 0 ∧ ∀ j : Nat, 2 ≤ j → j < x.1 → W.getD j [] ≠ word) ∨ ∃ j : Nat, 2 ≤ j ∧ j < x.1 ∧ W.getD j [] = word ∧ x.2 = j + 1)) (fun x => 37 - x.1) (0, 0) _ ⟨by simp, .inl ⟨rfl, fun j h1 h2 => by dsimp only at h2; omega⟩⟩ (by simp (maxSteps := 1000000) (disch := omega) only [push_cast, go_sem, Nat.reduceEqDiff, ↓reduceIte, reduceCtorEq, Nat.reduceAdd, Nat.reduceSub, Nat.reduceLeDiff, Nat.reduceLT, Int.reduceLT, Int.reduceLE, Int.reduceEq, Int.reduceNeg, Nat.reduceMul, Int.reduceAdd, Int.reduceToNat, *]) (by simp (maxSteps := 1000000) (disch := omega) only [push_cast, go_sem, Nat.reduceEqDiff, ↓reduceIte, reduceCtorEq, Nat.reduceAdd, Nat.reduceSub, Nat.reduceLeDiff, Nat.reduceLT, Int.reduceLT, Int.reduceLE, Int.reduceEq, Int.reduceNeg, Nat.reduceMul, Int.reduceAdd, Int.reduceToNat, *]) (Nat.le_refl _) ?_
      rintro ⟨i, k⟩ N hN ⟨hi, hk⟩
      dsimp only at hi hk
      have keep : (∀ h : i < W.length, 2 ≤ i → W[i] ≠ word) → i < 37 → ((k = 0 ∧ ∀ j : Nat, 2 ≤ j → j < i + 1 → W.getD j [] ≠ word) ∨ ∃ j : Nat, 2 ≤ j ∧ j < i + 1 ∧ W.getD j [] = word ∧ k = j + 1) := fun h hi37 => by
        rcases hk with ⟨h1, h2⟩ | ⟨j, h1, h2, h3, h4⟩
        · refine .inl ⟨h1, fun j h3 h4 => ?_⟩
          rcases Nat.lt_or_ge j i with h5 | h5
          · exact h2 j h3 h5
          · obtain rfl : j = i := by omega
            rw [hg j (by omega)]; exact h (by omega) h3
        · exact .inr ⟨j, h1, by omega, h3, h4⟩
      have hend : i = 37 → IsCode word k := fun e => by subst e; rw [IsCode, hW]; exact hk
      clear hk
      dsimp only
      by_cases hil : i < 37
      · simp (maxSteps := 1000000) (disch := omega) only [push_cast, go_sem, Nat.reduceEqDiff, ↓reduceIte, reduceCtorEq, Nat.reduceAdd, Nat.reduceSub, Nat.reduceLeDiff, Nat.reduceLT, Int.reduceLT, Int.reduceLE, Int.reduceEq, Int.reduceNeg, Nat.reduceMul, Int.reduceAdd, Int.reduceToNat, *]
        repeat' (first
    | with_reducible refine And.intro ?_ ?_
    | (with_reducible intro hx; (try simp only [false_dec, true_dec, Int.ofNat_inj, gt_iff_lt, ge_iff_le, decide_eq_true_eq, decide_eq_false_iff_not, Bool.not_eq_true', Bool.not_eq_false', Bool.and_eq_true, Bool.or_eq_false_iff, ne_eq, Classical.not_not] at hx); (first | (exfalso; omega) | (try simp (maxSteps := 1000000) (disch := omega) only [push_cast, go_sem, Nat.reduceEqDiff, ↓reduceIte, reduceCtorEq, Nat.reduceAdd, Nat.reduceSub, Nat.reduceLeDiff, Nat.reduceLT, Int.reduceLT, Int.reduceLE, Int.reduceEq, Int.reduceNeg, Nat.reduceMul, Int.reduceAdd, Int.reduceToNat, *])))
    | (with_reducible refine branch_t ?_; (try simp (maxSteps := 1000000) (disch := omega) only [push_cast, go_sem, Nat.reduceEqDiff, ↓reduceIte, reduceCtorEq, Nat.reduceAdd, Nat.reduceSub, Nat.reduceLeDiff, Nat.reduceLT, Int.reduceLT, Int.reduceLE, Int.reduceEq, Int.reduceNeg, Nat.reduceMul, Int.reduceAdd, Int.reduceToNat, *]))
    | (with_reducible refine branch_f ?_; (try simp (maxSteps := 1000000) (disch := omega) only [push_cast, go_sem, Nat.reduceEqDiff, ↓reduceIte, reduceCtorEq, Nat.reduceAdd, Nat.reduceSub, Nat.reduceLeDiff, Nat.reduceLT, Int.reduceLT, Int.reduceLE, Int.reduceEq, Int.reduceNeg, Nat.reduceMul, Int.reduceAdd, Int.reduceToNat, *]))
    | (with_reducible refine cond_split ?_ ?_)
    | (with_reducible refine guard_split ?_ ?_)
    | ((with_reducible refine drw_open 0 ?_); simp (maxSteps := 1000000) (disch := omega) only [push_cast, go_sem, Nat.reduceEqDiff, ↓reduceIte, reduceCtorEq, Nat.reduceAdd, Nat.reduceSub, Nat.reduceLeDiff, Nat.reduceLT, Int.reduceLT, Int.reduceLE, Int.reduceEq, Int.reduceNeg, Nat.reduceMul, Int.reduceAdd, Int.reduceToNat, *]; (with_reducible refine drw_id ?_))
    | ((with_reducible refine drw_open 1 ?_); simp (maxSteps := 1000000) (disch := omega) only [push_cast, go_sem, Nat.reduceEqDiff, ↓reduceIte, reduceCtorEq, Nat.reduceAdd, Nat.reduceSub, Nat.reduceLeDiff, Nat.reduceLT, Int.reduceLT, Int.reduceLE, Int.reduceEq, Int.reduceNeg, Nat.reduceMul, Int.reduceAdd, Int.reduceToNat, *]; (with_reducible refine drw_id ?_))
    | ((with_reducible refine drw_open 2 ?_); simp (maxSteps := 1000000) (disch := omega) only [push_cast, go_sem, Nat.reduceEqDiff, ↓reduceIte, reduceCtorEq, Nat.reduceAdd, Nat.reduceSub, Nat.reduceLeDiff, Nat.reduceLT, Int.reduceLT, Int.reduceLE, Int.reduceEq, Int.reduceNeg, Nat.reduceMul, Int.reduceAdd, Int.reduceToNat, *]; (with_reducible refine drw_id ?_))
    | ((with_reducible refine drw_intro ?_ ?_); (focus decide +kernel); (try simp (maxSteps := 1000000) (disch := omega) only [push_cast, go_sem, Nat.reduceEqDiff, ↓reduceIte, reduceCtorEq, Nat.reduceAdd, Nat.reduceSub, Nat.reduceLeDiff, Nat.reduceLT, Int.reduceLT, Int.reduceLE, Int.reduceEq, Int.reduceNeg, Nat.reduceMul, Int.reduceAdd, Int.reduceToNat, *]))
    | (with_reducible refine still_split ?_ ?_)
    | omega)
        all_goals first
          | (refine loop_end (i + 1, (i : Int) + 1) _ (by omega) ⟨by dsimp only; omega, .inr ⟨i, by omega, by dsimp only; omega, by rw [hg i (by omega)]; assumption, rfl⟩⟩ (by dsimp only; omega) (by simp (maxSteps := 1000000) (disch := omega) only [push_cast, go_sem, Nat.reduceEqDiff, ↓reduceIte, reduceCtorEq, Nat.reduceAdd, Nat.reduceSub, Nat.reduceLeDiff, Nat.reduceLT, Int.reduceLT, Int.reduceLE, Int.reduceEq, Int.reduceNeg, Nat.reduceMul, Int.reduceAdd, Int.reduceToNat, *]) (by simp (maxSteps := 1000000) (disch := omega) only [push_cast, go_sem, Nat.reduceEqDiff, ↓reduceIte, reduceCtorEq, Nat.reduceAdd, Nat.reduceSub, Nat.reduceLeDiff, Nat.reduceLT, Int.reduceLT, Int.reduceLE, Int.reduceEq, Int.reduceNeg, Nat.reduceMul, Int.reduceAdd, Int.reduceToNat, *]) (Nat.le_refl _))
          | (refine loop_end (i + 1, k) _ (by omega) ⟨by dsimp only; omega, keep (fun h h2 => by first | assumption | (exfalso; omega) | fail) hil⟩ (by dsimp only; omega) (by simp (maxSteps := 1000000) (disch := omega) only [push_cast, go_sem, Nat.reduceEqDiff, ↓reduceIte, reduceCtorEq, Nat.reduceAdd, Nat.reduceSub, Nat.reduceLeDiff, Nat.reduceLT, Int.reduceLT, Int.reduceLE, Int.reduceEq, Int.reduceNeg, Nat.reduceMul, Int.reduceAdd, Int.reduceToNat, *]) (by simp (maxSteps := 1000000) (disch := omega) only [push_cast, go_sem, Nat.reduceEqDiff, ↓reduceIte, reduceCtorEq, Nat.reduceAdd, Nat.reduceSub, Nat.reduceLeDiff, Nat.reduceLT, Int.reduceLT, Int.reduceLE, Int.reduceEq, Int.reduceNeg, Nat.reduceMul, Int.reduceAdd, Int.reduceToNat, *]) (Nat.le_refl _))
      · have hrk : k = r := isCode_uniq (hend (by omega)) hr
        subst hrk
        simp (maxSteps := 1000000) (disch := omega) only [push_cast, go_sem, Nat.reduceEqDiff, ↓reduceIte, reduceCtorEq, Nat.reduceAdd, Nat.reduceSub, Nat.reduceLeDiff, Nat.reduceLT, Int.reduceLT, Int.reduceLE, Int.reduceEq, Int.reduceNeg, Nat.reduceMul, Int.reduceAdd, Int.reduceToNat, *]
        repeat' (first
    | with_reducible refine And.intro ?_ ?_
    | (with_reducible intro hx; (try simp only [false_dec, true_dec, Int.ofNat_inj, gt_iff_lt, ge_iff_le, decide_eq_true_eq, decide_eq_false_iff_not, Bool.not_eq_true', Bool.not_eq_false', Bool.and_eq_true, Bool.or_eq_false_iff, ne_eq, Classical.not_not] at hx); (first | (exfalso; omega) | (try simp (maxSteps := 1000000) (disch := omega) only [push_cast, go_sem, Nat.reduceEqDiff, ↓reduceIte, reduceCtorEq, Nat.reduceAdd, Nat.reduceSub, Nat.reduceLeDiff, Nat.reduceLT, Int.reduceLT, Int.reduceLE, Int.reduceEq, Int.reduceNeg, Nat.reduceMul, Int.reduceAdd, Int.reduceToNat, *])))
    | (with_reducible refine branch_t ?_; (try simp (maxSteps := 1000000) (disch := omega) only [push_cast, go_sem, Nat.reduceEqDiff, ↓reduceIte, reduceCtorEq, Nat.reduceAdd, Nat.reduceSub, Nat.reduceLeDiff, Nat.reduceLT, Int.reduceLT, Int.reduceLE, Int.reduceEq, Int.reduceNeg, Nat.reduceMul, Int.reduceAdd, Int.reduceToNat, *]))
    | (with_reducible refine branch_f ?_; (try simp (maxSteps := 1000000) (disch := omega) only [push_cast, go_sem, Nat.reduceEqDiff, ↓reduceIte, reduceCtorEq, Nat.reduceAdd, Nat.reduceSub, Nat.reduceLeDiff, Nat.reduceLT, Int.reduceLT, Int.reduceLE, Int.reduceEq, Int.reduceNeg, Nat.reduceMul, Int.reduceAdd, Int.reduceToNat, *]))
    | (with_reducible refine cond_split ?_ ?_)
    | (with_reducible refine guard_split ?_ ?_)
    | ((with_reducible refine drw_open 0 ?_); simp (maxSteps := 1000000) (disch := omega) only [push_cast, go_sem, Nat.reduceEqDiff, ↓reduceIte, reduceCtorEq, Nat.reduceAdd, Nat.reduceSub, Nat.reduceLeDiff, Nat.reduceLT, Int.reduceLT, Int.reduceLE, Int.reduceEq, Int.reduceNeg, Nat.reduceMul, Int.reduceAdd, Int.reduceToNat, *]; (with_reducible refine drw_id ?_))
    | ((with_reducible refine drw_open 1 ?_); simp (maxSteps := 1000000) (disch := omega) only [push_cast, go_sem, Nat.reduceEqDiff, ↓reduceIte, reduceCtorEq, Nat.reduceAdd, Nat.reduceSub, Nat.reduceLeDiff, Nat.reduceLT, Int.reduceLT, Int.reduceLE, Int.reduceEq, Int.reduceNeg, Nat.reduceMul, Int.reduceAdd, Int.reduceToNat, *]; (with_reducible refine drw_id ?_))
    | ((with_reducible refine drw_open 2 ?_); simp (maxSteps := 1000000) (disch := omega) only [push_cast, go_sem, Nat.reduceEqDiff, ↓reduceIte, reduceCtorEq, Nat.reduceAdd, Nat.reduceSub, Nat.reduceLeDiff, Nat.reduceLT, Int.reduceLT, Int.reduceLE, Int.reduceEq, Int.reduceNeg, Nat.reduceMul, Int.reduceAdd, Int.reduceToNat, *]; (with_reducible refine drw_id ?_))
    | ((with_reducible refine drw_intro ?_ ?_); (focus decide +kernel); (try simp (maxSteps := 1000000) (disch := omega) only [push_cast, go_sem, Nat.reduceEqDiff, ↓reduceIte, reduceCtorEq, Nat.reduceAdd, Nat.reduceSub, Nat.reduceLeDiff, Nat.reduceLT, Int.reduceLT, Int.reduceLE, Int.reduceEq, Int.reduceNeg, Nat.reduceMul, Int.reduceAdd, Int.reduceToNat, *]))
    | (with_reducible refine still_split ?_ ?_)
    | ((with_reducible refine call_by2 [] (code_spec _ hr) (by first | (refine ⟨?_, ?_, ?_, ?_⟩ <;> ((try simp (maxSteps := 1000000) (disch := omega) only [push_cast, go_sem, Nat.reduceEqDiff, ↓reduceIte, reduceCtorEq, Nat.reduceAdd, Nat.reduceSub, Nat.reduceLeDiff, Nat.reduceLT, Int.reduceLT, Int.reduceLE, Int.reduceEq, Int.reduceNeg, Nat.reduceMul, Int.reduceAdd, Int.reduceToNat, *]); (try rfl); (try omega); done)) | fail) ?_) <;> (try simp (maxSteps := 1000000) (disch := omega) only [push_cast, go_sem, Nat.reduceEqDiff, ↓reduceIte, reduceCtorEq, Nat.reduceAdd, Nat.reduceSub, Nat.reduceLeDiff, Nat.reduceLT, Int.reduceLT, Int.reduceLE, Int.reduceEq, Int.reduceNeg, Nat.reduceMul, Int.reduceAdd, Int.reduceToNat, *]))
    | ((with_reducible refine call_by2 [] (awake19_spec) (by first | (refine ⟨?_, ?_, ?_, ?_⟩ <;> ((try simp (maxSteps := 1000000) (disch := omega) only [push_cast, go_sem, Nat.reduceEqDiff, ↓reduceIte, reduceCtorEq, Nat.reduceAdd, Nat.reduceSub, Nat.reduceLeDiff, Nat.reduceLT, Int.reduceLT, Int.reduceLE, Int.reduceEq, Int.reduceNeg, Nat.reduceMul, Int.reduceAdd, Int.reduceToNat, *]); (try rfl); (try omega); done)) | fail) ?_) <;> (try simp (maxSteps := 1000000) (disch := omega) only [push_cast, go_sem, Nat.reduceEqDiff, ↓reduceIte, reduceCtorEq, Nat.reduceAdd, Nat.reduceSub, Nat.reduceLeDiff, Nat.reduceLT, Int.reduceLT, Int.reduceLE, Int.reduceEq, Int.reduceNeg, Nat.reduceMul, Int.reduceAdd, Int.reduceToNat, *]))
    | omega)
  · have hwo : wordOf code = [] := by unfold wordOf; rw [if_neg hc]
    refine spec_run (P := Tryd.prog) (f := 4) (fn := Tryd.f4) (by kernel_rfl) (by kernel_rfl) rfl (by simp [Tryd.f4]) ?_; simp (maxSteps := 1000000) (disch := omega) only [push_cast, go_sem, Nat.reduceEqDiff, ↓reduceIte, reduceCtorEq, Nat.reduceAdd, Nat.reduceSub, Nat.reduceLeDiff, Nat.reduceLT, Int.reduceLT, Int.reduceLE, Int.reduceEq, Int.reduceNeg, Nat.reduceMul, Int.reduceAdd, Int.reduceToNat, Tryd.f4, *]
    repeat' (first
    | with_reducible refine And.intro ?_ ?_
    | (with_reducible intro hx; (try simp only [false_dec, true_dec, Int.ofNat_inj, gt_iff_lt, ge_iff_le, decide_eq_true_eq, decide_eq_false_iff_not, Bool.not_eq_true', Bool.not_eq_false', Bool.and_eq_true, Bool.or_eq_false_iff, ne_eq, Classical.not_not] at hx); (first | (exfalso; omega) | (try simp (maxSteps := 1000000) (disch := omega) only [push_cast, go_sem, Nat.reduceEqDiff, ↓reduceIte, reduceCtorEq, Nat.reduceAdd, Nat.reduceSub, Nat.reduceLeDiff, Nat.reduceLT, Int.reduceLT, Int.reduceLE, Int.reduceEq, Int.reduceNeg, Nat.reduceMul, Int.reduceAdd, Int.reduceToNat, *])))
    | (with_reducible refine branch_t ?_; (try simp (maxSteps := 1000000) (disch := omega) only [push_cast, go_sem, Nat.reduceEqDiff, ↓reduceIte, reduceCtorEq, Nat.reduceAdd, Nat.reduceSub, Nat.reduceLeDiff, Nat.reduceLT, Int.reduceLT, Int.reduceLE, Int.reduceEq, Int.reduceNeg, Nat.reduceMul, Int.reduceAdd, Int.reduceToNat, *]))
    | (with_reducible refine branch_f ?_; (try simp (maxSteps := 1000000) (disch := omega) only [push_cast, go_sem, Nat.reduceEqDiff, ↓reduceIte, reduceCtorEq, Nat.reduceAdd, Nat.reduceSub, Nat.reduceLeDiff, Nat.reduceLT, Int.reduceLT, Int.reduceLE, Int.reduceEq, Int.reduceNeg, Nat.reduceMul, Int.reduceAdd, Int.reduceToNat, *]))
    | (with_reducible refine cond_split ?_ ?_)
    | (with_reducible refine guard_split ?_ ?_)
    | ((with_reducible refine drw_open 0 ?_); simp (maxSteps := 1000000) (disch := omega) only [push_cast, go_sem, Nat.reduceEqDiff, ↓reduceIte, reduceCtorEq, Nat.reduceAdd, Nat.reduceSub, Nat.reduceLeDiff, Nat.reduceLT, Int.reduceLT, Int.reduceLE, Int.reduceEq, Int.reduceNeg, Nat.reduceMul, Int.reduceAdd, Int.reduceToNat, *]; (with_reducible refine drw_id ?_))
    | ((with_reducible refine drw_open 1 ?_); simp (maxSteps := 1000000) (disch := omega) only [push_cast, go_sem, Nat.reduceEqDiff, ↓reduceIte, reduceCtorEq, Nat.reduceAdd, Nat.reduceSub, Nat.reduceLeDiff, Nat.reduceLT, Int.reduceLT, Int.reduceLE, Int.reduceEq, Int.reduceNeg, Nat.reduceMul, Int.reduceAdd, Int.reduceToNat, *]; (with_reducible refine drw_id ?_))
    | ((with_reducible refine drw_open 2 ?_); simp (maxSteps := 1000000) (disch := omega) only [push_cast, go_sem, Nat.reduceEqDiff, ↓reduceIte, reduceCtorEq, Nat.reduceAdd, Nat.reduceSub, Nat.reduceLeDiff, Nat.reduceLT, Int.reduceLT, Int.reduceLE, Int.reduceEq, Int.reduceNeg, Nat.reduceMul, Int.reduceAdd, Int.reduceToNat, *]; (with_reducible refine drw_id ?_))
    | ((with_reducible refine drw_intro ?_ ?_); (focus decide +kernel); (try simp (maxSteps := 1000000) (disch := omega) only [push_cast, go_sem, Nat.reduceEqDiff, ↓reduceIte, reduceCtorEq, Nat.reduceAdd, Nat.reduceSub, Nat.reduceLeDiff, Nat.reduceLT, Int.reduceLT, Int.reduceLE, Int.reduceEq, Int.reduceNeg, Nat.reduceMul, Int.reduceAdd, Int.reduceToNat, *]))
    | (with_reducible refine still_split ?_ ?_)
    | ((with_reducible refine call_by2 [] (hw) (by first | (refine ⟨?_, ?_, ?_, ?_⟩ <;> ((try simp (maxSteps := 1000000) (disch := omega) only [push_cast, go_sem, Nat.reduceEqDiff, ↓reduceIte, reduceCtorEq, Nat.reduceAdd, Nat.reduceSub, Nat.reduceLeDiff, Nat.reduceLT, Int.reduceLT, Int.reduceLE, Int.reduceEq, Int.reduceNeg, Nat.reduceMul, Int.reduceAdd, Int.reduceToNat, *]); (try rfl); (try omega); done)) | fail) ?_) <;> (try simp (maxSteps := 1000000) (disch := omega) only [push_cast, go_sem, Nat.reduceEqDiff, ↓reduceIte, reduceCtorEq, Nat.reduceAdd, Nat.reduceSub, Nat.reduceLeDiff, Nat.reduceLT, Int.reduceLT, Int.reduceLE, Int.reduceEq, Int.reduceNeg, Nat.reduceMul, Int.reduceAdd, Int.reduceToNat, *]))
    | ((with_reducible refine call_by2 [] (word_spec _) (by first | (refine ⟨?_, ?_, ?_, ?_⟩ <;> ((try simp (maxSteps := 1000000) (disch := omega) only [push_cast, go_sem, Nat.reduceEqDiff, ↓reduceIte, reduceCtorEq, Nat.reduceAdd, Nat.reduceSub, Nat.reduceLeDiff, Nat.reduceLT, Int.reduceLT, Int.reduceLE, Int.reduceEq, Int.reduceNeg, Nat.reduceMul, Int.reduceAdd, Int.reduceToNat, *]); (try rfl); (try omega); done)) | fail) ?_) <;> (try simp (maxSteps := 1000000) (disch := omega) only [push_cast, go_sem, Nat.reduceEqDiff, ↓reduceIte, reduceCtorEq, Nat.reduceAdd, Nat.reduceSub, Nat.reduceLeDiff, Nat.reduceLT, Int.reduceLT, Int.reduceLE, Int.reduceEq, Int.reduceNeg, Nat.reduceMul, Int.reduceAdd, Int.reduceToNat, *]))
    | omega)
    · have hg : ∀ (i : Nat) (h : i < W.length), W.getD i [] = W[i] := fun i h => by rw [List.getD_eq_getElem?_getD, List.getElem?_eq_getElem h]; rfl
      obtain ⟨r, hr⟩ := hcodes wd
      refine loop_by (σ := Nat × Int) (fun x N => ([(41, .int .i64 x.1), (40, .int .i64 37), (39, .row 0 37 0 37), (6, .int .i64 x.2), (4, .bool false), (0, .int .i64 code), (1, .str (ofL wd))], [(0, .row 1 (W.map encS) false)]))
        (fun x => x.1 ≤ 37 ∧ ((x.2 = 0 ∧ ∀ j : Nat, 2 ≤ j → j < x.1 → W.getD j [] ≠ wd) ∨ ∃ j : Nat, 2 ≤ j ∧ j < x.1 ∧ W.getD j [] = wd ∧ x.2 = j + 1)) (fun x => 37 - x.1) (0, 0) _ ⟨by simp, .inl ⟨rfl, fun j h1 h2 => by dsimp only at h2; omega⟩⟩ (by simp (maxSteps := 1000000) (disch := omega) only [push_cast, go_sem, Nat.reduceEqDiff, ↓reduceIte, reduceCtorEq, Nat.reduceAdd, Nat.reduceSub, Nat.reduceLeDiff, Nat.reduceLT, Int.reduceLT, Int.reduceLE, Int.reduceEq, Int.reduceNeg, Nat.reduceMul, Int.reduceAdd, Int.reduceToNat, *]) (by simp (maxSteps := 1000000) (disch := omega) only [push_cast, go_sem, Nat.reduceEqDiff, ↓reduceIte, reduceCtorEq, Nat.reduceAdd, Nat.reduceSub, Nat.reduceLeDiff, Nat.reduceLT, Int.reduceLT, Int.reduceLE, Int.reduceEq, Int.reduceNeg, Nat.reduceMul, Int.reduceAdd, Int.reduceToNat, *]) (Nat.le_refl _) ?_
      rintro ⟨i, k⟩ N hN ⟨hi, hk⟩
      dsimp only at hi hk
      have keep : (∀ h : i < W.length, 2 ≤ i → W[i] ≠ wd) → i < 37 → ((k = 0 ∧ ∀ j : Nat, 2 ≤ j → j < i + 1 → W.getD j [] ≠ wd) ∨ ∃ j : Nat, 2 ≤ j ∧ j < i + 1 ∧ W.getD j [] = wd ∧ k = j + 1) := fun h hi37 => by
        rcases hk with ⟨h1, h2⟩ | ⟨j, h1, h2, h3, h4⟩
        · refine .inl ⟨h1, fun j h3 h4 => ?_⟩
          rcases Nat.lt_or_ge j i with h5 | h5
          · exact h2 j h3 h5
          · obtain rfl : j = i := by omega
            rw [hg j (by omega)]; exact h (by omega) h3
        · exact .inr ⟨j, h1, by omega, h3, h4⟩
      have hend : i = 37 → IsCode wd k := fun e => by subst e; rw [IsCode, hW]; exact hk
      clear hk
      dsimp only
      by_cases hil : i < 37
      · simp (maxSteps := 1000000) (disch := omega) only [push_cast, go_sem, Nat.reduceEqDiff, ↓reduceIte, reduceCtorEq, Nat.reduceAdd, Nat.reduceSub, Nat.reduceLeDiff, Nat.reduceLT, Int.reduceLT, Int.reduceLE, Int.reduceEq, Int.reduceNeg, Nat.reduceMul, Int.reduceAdd, Int.reduceToNat, *]
        repeat' (first
    | with_reducible refine And.intro ?_ ?_
    | (with_reducible intro hx; (try simp only [false_dec, true_dec, Int.ofNat_inj, gt_iff_lt, ge_iff_le, decide_eq_true_eq, decide_eq_false_iff_not, Bool.not_eq_true', Bool.not_eq_false', Bool.and_eq_true, Bool.or_eq_false_iff, ne_eq, Classical.not_not] at hx); (first | (exfalso; omega) | (try simp (maxSteps := 1000000) (disch := omega) only [push_cast, go_sem, Nat.reduceEqDiff, ↓reduceIte, reduceCtorEq, Nat.reduceAdd, Nat.reduceSub, Nat.reduceLeDiff, Nat.reduceLT, Int.reduceLT, Int.reduceLE, Int.reduceEq, Int.reduceNeg, Nat.reduceMul, Int.reduceAdd, Int.reduceToNat, *])))
    | (with_reducible refine branch_t ?_; (try simp (maxSteps := 1000000) (disch := omega) only [push_cast, go_sem, Nat.reduceEqDiff, ↓reduceIte, reduceCtorEq, Nat.reduceAdd, Nat.reduceSub, Nat.reduceLeDiff, Nat.reduceLT, Int.reduceLT, Int.reduceLE, Int.reduceEq, Int.reduceNeg, Nat.reduceMul, Int.reduceAdd, Int.reduceToNat, *]))
    | (with_reducible refine branch_f ?_; (try simp (maxSteps := 1000000) (disch := omega) only [push_cast, go_sem, Nat.reduceEqDiff, ↓reduceIte, reduceCtorEq, Nat.reduceAdd, Nat.reduceSub, Nat.reduceLeDiff, Nat.reduceLT, Int.reduceLT, Int.reduceLE, Int.reduceEq, Int.reduceNeg, Nat.reduceMul, Int.reduceAdd, Int.reduceToNat, *]))
    | (with_reducible refine cond_split ?_ ?_)
    | (with_reducible refine guard_split ?_ ?_)
    | ((with_reducible refine drw_open 0 ?_); simp (maxSteps := 1000000) (disch := omega) only [push_cast, go_sem, Nat.reduceEqDiff, ↓reduceIte, reduceCtorEq, Nat.reduceAdd, Nat.reduceSub, Nat.reduceLeDiff, Nat.reduceLT, Int.reduceLT, Int.reduceLE, Int.reduceEq, Int.reduceNeg, Nat.reduceMul, Int.reduceAdd, Int.reduceToNat, *]; (with_reducible refine drw_id ?_))
    | ((with_reducible refine drw_open 1 ?_); simp (maxSteps := 1000000) (disch := omega) only [push_cast, go_sem, Nat.reduceEqDiff, ↓reduceIte, reduceCtorEq, Nat.reduceAdd, Nat.reduceSub, Nat.reduceLeDiff, Nat.reduceLT, Int.reduceLT, Int.reduceLE, Int.reduceEq, Int.reduceNeg, Nat.reduceMul, Int.reduceAdd, Int.reduceToNat, *]; (with_reducible refine drw_id ?_))
    | ((with_reducible refine drw_open 2 ?_); simp (maxSteps := 1000000) (disch := omega) only [push_cast, go_sem, Nat.reduceEqDiff, ↓reduceIte, reduceCtorEq, Nat.reduceAdd, Nat.reduceSub, Nat.reduceLeDiff, Nat.reduceLT, Int.reduceLT, Int.reduceLE, Int.reduceEq, Int.reduceNeg, Nat.reduceMul, Int.reduceAdd, Int.reduceToNat, *]; (with_reducible refine drw_id ?_))
    | ((with_reducible refine drw_intro ?_ ?_); (focus decide +kernel); (try simp (maxSteps := 1000000) (disch := omega) only [push_cast, go_sem, Nat.reduceEqDiff, ↓reduceIte, reduceCtorEq, Nat.reduceAdd, Nat.reduceSub, Nat.reduceLeDiff, Nat.reduceLT, Int.reduceLT, Int.reduceLE, Int.reduceEq, Int.reduceNeg, Nat.reduceMul, Int.reduceAdd, Int.reduceToNat, *]))
    | (with_reducible refine still_split ?_ ?_)
    | omega)
        all_goals first
          | (refine loop_end (i + 1, (i : Int) + 1) _ (by omega) ⟨by dsimp only; omega, .inr ⟨i, by omega, by dsimp only; omega, by rw [hg i (by omega)]; assumption, rfl⟩⟩ (by dsimp only; omega) (by simp (maxSteps := 1000000) (disch := omega) only [push_cast, go_sem, Nat.reduceEqDiff, ↓reduceIte, reduceCtorEq, Nat.reduceAdd, Nat.reduceSub, Nat.reduceLeDiff, Nat.reduceLT, Int.reduceLT, Int.reduceLE, Int.reduceEq, Int.reduceNeg, Nat.reduceMul, Int.reduceAdd, Int.reduceToNat, *]) (by simp (maxSteps := 1000000) (disch := omega) only [push_cast, go_sem, Nat.reduceEqDiff, ↓reduceIte, reduceCtorEq, Nat.reduceAdd, Nat.reduceSub, Nat.reduceLeDiff, Nat.reduceLT, Int.reduceLT, Int.reduceLE, Int.reduceEq, Int.reduceNeg, Nat.reduceMul, Int.reduceAdd, Int.reduceToNat, *]) (Nat.le_refl _))
          | (refine loop_end (i + 1, k) _ (by omega) ⟨by dsimp only; omega, keep (fun h h2 => by first | assumption | (exfalso; omega) | fail) hil⟩ (by dsimp only; omega) (by simp (maxSteps := 1000000) (disch := omega) only [push_cast, go_sem, Nat.reduceEqDiff, ↓reduceIte, reduceCtorEq, Nat.reduceAdd, Nat.reduceSub, Nat.reduceLeDiff, Nat.reduceLT, Int.reduceLT, Int.reduceLE, Int.reduceEq, Int.reduceNeg, Nat.reduceMul, Int.reduceAdd, Int.reduceToNat, *]) (by simp (maxSteps := 1000000) (disch := omega) only [push_cast, go_sem, Nat.reduceEqDiff, ↓reduceIte, reduceCtorEq, Nat.reduceAdd, Nat.reduceSub, Nat.reduceLeDiff, Nat.reduceLT, Int.reduceLT, Int.reduceLE, Int.reduceEq, Int.reduceNeg, Nat.reduceMul, Int.reduceAdd, Int.reduceToNat, *]) (Nat.le_refl _))
      · have hrk : k = r := isCode_uniq (hend (by omega)) hr
        subst hrk
        simp (maxSteps := 1000000) (disch := omega) only [push_cast, go_sem, Nat.reduceEqDiff, ↓reduceIte, reduceCtorEq, Nat.reduceAdd, Nat.reduceSub, Nat.reduceLeDiff, Nat.reduceLT, Int.reduceLT, Int.reduceLE, Int.reduceEq, Int.reduceNeg, Nat.reduceMul, Int.reduceAdd, Int.reduceToNat, *]
        repeat' (first
    | with_reducible refine And.intro ?_ ?_
    | (with_reducible intro hx; (try simp only [false_dec, true_dec, Int.ofNat_inj, gt_iff_lt, ge_iff_le, decide_eq_true_eq, decide_eq_false_iff_not, Bool.not_eq_true', Bool.not_eq_false', Bool.and_eq_true, Bool.or_eq_false_iff, ne_eq, Classical.not_not] at hx); (first | (exfalso; omega) | (try simp (maxSteps := 1000000) (disch := omega) only [push_cast, go_sem, Nat.reduceEqDiff, ↓reduceIte, reduceCtorEq, Nat.reduceAdd, Nat.reduceSub, Nat.reduceLeDiff, Nat.reduceLT, Int.reduceLT, Int.reduceLE, Int.reduceEq, Int.reduceNeg, Nat.reduceMul, Int.reduceAdd, Int.reduceToNat, *])))
    | (with_reducible refine branch_t ?_; (try simp (maxSteps := 1000000) (disch := omega) only [push_cast, go_sem, Nat.reduceEqDiff, ↓reduceIte, reduceCtorEq, Nat.reduceAdd, Nat.reduceSub, Nat.reduceLeDiff, Nat.reduceLT, Int.reduceLT, Int.reduceLE, Int.reduceEq, Int.reduceNeg, Nat.reduceMul, Int.reduceAdd, Int.reduceToNat, *]))
    | (with_reducible refine branch_f ?_; (try simp (maxSteps := 1000000) (disch := omega) only [push_cast, go_sem, Nat.reduceEqDiff, ↓reduceIte, reduceCtorEq, Nat.reduceAdd, Nat.reduceSub, Nat.reduceLeDiff, Nat.reduceLT, Int.reduceLT, Int.reduceLE, Int.reduceEq, Int.reduceNeg, Nat.reduceMul, Int.reduceAdd, Int.reduceToNat, *]))
    | (with_reducible refine cond_split ?_ ?_)
    | (with_reducible refine guard_split ?_ ?_)
    | ((with_reducible refine drw_open 0 ?_); simp (maxSteps := 1000000) (disch := omega) only [push_cast, go_sem, Nat.reduceEqDiff, ↓reduceIte, reduceCtorEq, Nat.reduceAdd, Nat.reduceSub, Nat.reduceLeDiff, Nat.reduceLT, Int.reduceLT, Int.reduceLE, Int.reduceEq, Int.reduceNeg, Nat.reduceMul, Int.reduceAdd, Int.reduceToNat, *]; (with_reducible refine drw_id ?_))
    | ((with_reducible refine drw_open 1 ?_); simp (maxSteps := 1000000) (disch := omega) only [push_cast, go_sem, Nat.reduceEqDiff, ↓reduceIte, reduceCtorEq, Nat.reduceAdd, Nat.reduceSub, Nat.reduceLeDiff, Nat.reduceLT, Int.reduceLT, Int.reduceLE, Int.reduceEq, Int.reduceNeg, Nat.reduceMul, Int.reduceAdd, Int.reduceToNat, *]; (with_reducible refine drw_id ?_))
    | ((with_reducible refine drw_open 2 ?_); simp (maxSteps := 1000000) (disch := omega) only [push_cast, go_sem, Nat.reduceEqDiff, ↓reduceIte, reduceCtorEq, Nat.reduceAdd, Nat.reduceSub, Nat.reduceLeDiff, Nat.reduceLT, Int.reduceLT, Int.reduceLE, Int.reduceEq, Int.reduceNeg, Nat.reduceMul, Int.reduceAdd, Int.reduceToNat, *]; (with_reducible refine drw_id ?_))
    | ((with_reducible refine drw_intro ?_ ?_); (focus decide +kernel); (try simp (maxSteps := 1000000) (disch := omega) only [push_cast, go_sem, Nat.reduceEqDiff, ↓reduceIte, reduceCtorEq, Nat.reduceAdd, Nat.reduceSub, Nat.reduceLeDiff, Nat.reduceLT, Int.reduceLT, Int.reduceLE, Int.reduceEq, Int.reduceNeg, Nat.reduceMul, Int.reduceAdd, Int.reduceToNat, *]))
    | (with_reducible refine still_split ?_ ?_)
    | ((with_reducible refine call_by2 [] (code_spec _ hr) (by first | (refine ⟨?_, ?_, ?_, ?_⟩ <;> ((try simp (maxSteps := 1000000) (disch := omega) only [push_cast, go_sem, Nat.reduceEqDiff, ↓reduceIte, reduceCtorEq, Nat.reduceAdd, Nat.reduceSub, Nat.reduceLeDiff, Nat.reduceLT, Int.reduceLT, Int.reduceLE, Int.reduceEq, Int.reduceNeg, Nat.reduceMul, Int.reduceAdd, Int.reduceToNat, *]); (try rfl); (try omega); done)) | fail) ?_) <;> (try simp (maxSteps := 1000000) (disch := omega) only [push_cast, go_sem, Nat.reduceEqDiff, ↓reduceIte, reduceCtorEq, Nat.reduceAdd, Nat.reduceSub, Nat.reduceLeDiff, Nat.reduceLT, Int.reduceLT, Int.reduceLE, Int.reduceEq, Int.reduceNeg, Nat.reduceMul, Int.reduceAdd, Int.reduceToNat, *]))
    | ((with_reducible refine call_by2 [] (awake19_spec) (by first | (refine ⟨?_, ?_, ?_, ?_⟩ <;> ((try simp (maxSteps := 1000000) (disch := omega) only [push_cast, go_sem, Nat.reduceEqDiff, ↓reduceIte, reduceCtorEq, Nat.reduceAdd, Nat.reduceSub, Nat.reduceLeDiff, Nat.reduceLT, Int.reduceLT, Int.reduceLE, Int.reduceEq, Int.reduceNeg, Nat.reduceMul, Int.reduceAdd, Int.reduceToNat, *]); (try rfl); (try omega); done)) | fail) ?_) <;> (try simp (maxSteps := 1000000) (disch := omega) only [push_cast, go_sem, Nat.reduceEqDiff, ↓reduceIte, reduceCtorEq, Nat.reduceAdd, Nat.reduceSub, Nat.reduceLeDiff, Nat.reduceLT, Int.reduceLT, Int.reduceLE, Int.reduceEq, Int.reduceNeg, Nat.reduceMul, Int.reduceAdd, Int.reduceToNat, *]))
    | omega)
    · have hg : ∀ (i : Nat) (h : i < W.length), W.getD i [] = W[i] := fun i h => by rw [List.getD_eq_getElem?_getD, List.getElem?_eq_getElem h]; rfl
      obtain ⟨r, hr⟩ := hcodes wd
      refine loop_by (σ := Nat × Int) (fun x N => ([(41, .int .i64 x.1), (40, .int .i64 37), (39, .row 0 37 0 37), (6, .int .i64 x.2), (4, .bool false), (0, .int .i64 code), (1, .str (ofL wd))], [(0, .row 1 (W.map encS) false)]))
        (fun x => x.1 ≤ 37 ∧ ((x.2 = 0 ∧ ∀ j : Nat, 2 ≤ j → j < x.1 → W.getD j [] ≠ wd) ∨ ∃ j : Nat, 2 ≤ j ∧ j < x.1 ∧ W.getD j [] = wd ∧ x.2 = j + 1)) (fun x => 37 - x.1) (0, 0) _ ⟨by simp, .inl ⟨rfl, fun j h1 h2 => by dsimp only at h2; omega⟩⟩ (by simp (maxSteps := 1000000) (disch := omega) only [push_cast, go_sem, Nat.reduceEqDiff, ↓reduceIte, reduceCtorEq, Nat.reduceAdd, Nat.reduceSub, Nat.reduceLeDiff, Nat.reduceLT, Int.reduceLT, Int.reduceLE, Int.reduceEq, Int.reduceNeg, Nat.reduceMul, Int.reduceAdd, Int.reduceToNat, *]) (by simp (maxSteps := 1000000) (disch := omega) only [push_cast, go_sem, Nat.reduceEqDiff, ↓reduceIte, reduceCtorEq, Nat.reduceAdd, Nat.reduceSub, Nat.reduceLeDiff, Nat.reduceLT, Int.reduceLT, Int.reduceLE, Int.reduceEq, Int.reduceNeg, Nat.reduceMul, Int.reduceAdd, Int.reduceToNat, *]) (Nat.le_refl _) ?_
      rintro ⟨i, k⟩ N hN ⟨hi, hk⟩
      dsimp only at hi hk
      have keep : (∀ h : i < W.length, 2 ≤ i → W[i] ≠ wd) → i < 37 → ((k = 0 ∧ ∀ j : Nat, 2 ≤ j → j < i + 1 → W.getD j [] ≠ wd) ∨ ∃ j : Nat, 2 ≤ j ∧ j < i + 1 ∧ W.getD j [] = wd ∧ k = j + 1) := fun h hi37 => by
        rcases hk with ⟨h1, h2⟩ | ⟨j, h1, h2, h3, h4⟩
        · refine .inl ⟨h1, fun j h3 h4 => ?_⟩
          rcases Nat.lt_or_ge j i with h5 | h5
          · exact h2 j h3 h5
          · obtain rfl : j = i := by omega
            rw [hg j (by omega)]; exact h (by omega) h3
        · exact .inr ⟨j, h1, by omega, h3, h4⟩
      have hend : i = 37 → IsCode wd k := fun e => by subst e; rw [IsCode, hW]; exact hk
      clear hk
      dsimp only
      by_cases hil : i < 37
      · simp (maxSteps := 1000000) (disch := omega) only [push_cast, go_sem, Nat.reduceEqDiff, ↓reduceIte, reduceCtorEq, Nat.reduceAdd, Nat.reduceSub, Nat.reduceLeDiff, Nat.reduceLT, Int.reduceLT, Int.reduceLE, Int.reduceEq, Int.reduceNeg, Nat.reduceMul, Int.reduceAdd, Int.reduceToNat, *]
        repeat' (first
    | with_reducible refine And.intro ?_ ?_
    | (with_reducible intro hx; (try simp only [false_dec, true_dec, Int.ofNat_inj, gt_iff_lt, ge_iff_le, decide_eq_true_eq, decide_eq_false_iff_not, Bool.not_eq_true', Bool.not_eq_false', Bool.and_eq_true, Bool.or_eq_false_iff, ne_eq, Classical.not_not] at hx); (first | (exfalso; omega) | (try simp (maxSteps := 1000000) (disch := omega) only [push_cast, go_sem, Nat.reduceEqDiff, ↓reduceIte, reduceCtorEq, Nat.reduceAdd, Nat.reduceSub, Nat.reduceLeDiff, Nat.reduceLT, Int.reduceLT, Int.reduceLE, Int.reduceEq, Int.reduceNeg, Nat.reduceMul, Int.reduceAdd, Int.reduceToNat, *])))
    | (with_reducible refine branch_t ?_; (try simp (maxSteps := 1000000) (disch := omega) only [push_cast, go_sem, Nat.reduceEqDiff, ↓reduceIte, reduceCtorEq, Nat.reduceAdd, Nat.reduceSub, Nat.reduceLeDiff, Nat.reduceLT, Int.reduceLT, Int.reduceLE, Int.reduceEq, Int.reduceNeg, Nat.reduceMul, Int.reduceAdd, Int.reduceToNat, *]))
    | (with_reducible refine branch_f ?_; (try simp (maxSteps := 1000000) (disch := omega) only [push_cast, go_sem, Nat.reduceEqDiff, ↓reduceIte, reduceCtorEq, Nat.reduceAdd, Nat.reduceSub, Nat.reduceLeDiff, Nat.reduceLT, Int.reduceLT, Int.reduceLE, Int.reduceEq, Int.reduceNeg, Nat.reduceMul, Int.reduceAdd, Int.reduceToNat, *]))
    | (with_reducible refine cond_split ?_ ?_)
    | (with_reducible refine guard_split ?_ ?_)
    | ((with_reducible refine drw_open 0 ?_); simp (maxSteps := 1000000) (disch := omega) only [push_cast, go_sem, Nat.reduceEqDiff, ↓reduceIte, reduceCtorEq, Nat.reduceAdd, Nat.reduceSub, Nat.reduceLeDiff, Nat.reduceLT, Int.reduceLT, Int.reduceLE, Int.reduceEq, Int.reduceNeg, Nat.reduceMul, Int.reduceAdd, Int.reduceToNat, *]; (with_reducible refine drw_id ?_))
    | ((with_reducible refine drw_open 1 ?_); simp (maxSteps := 1000000) (disch := omega) only [push_cast, go_sem, Nat.reduceEqDiff, ↓reduceIte, reduceCtorEq, Nat.reduceAdd, Nat.reduceSub, Nat.reduceLeDiff, Nat.reduceLT, Int.reduceLT, Int.reduceLE, Int.reduceEq, Int.reduceNeg, Nat.reduceMul, Int.reduceAdd, Int.reduceToNat, *]; (with_reducible refine drw_id ?_))
    | ((with_reducible refine drw_open 2 ?_); simp (maxSteps := 1000000) (disch := omega) only [push_cast, go_sem, Nat.reduceEqDiff, ↓reduceIte, reduceCtorEq, Nat.reduceAdd, Nat.reduceSub, Nat.reduceLeDiff, Nat.reduceLT, Int.reduceLT, Int.reduceLE, Int.reduceEq, Int.reduceNeg, Nat.reduceMul, Int.reduceAdd, Int.reduceToNat, *]; (with_reducible refine drw_id ?_))
    | ((with_reducible refine drw_intro ?_ ?_); (focus decide +kernel); (try simp (maxSteps := 1000000) (disch := omega) only [push_cast, go_sem, Nat.reduceEqDiff, ↓reduceIte, reduceCtorEq, Nat.reduceAdd, Nat.reduceSub, Nat.reduceLeDiff, Nat.reduceLT, Int.reduceLT, Int.reduceLE, Int.reduceEq, Int.reduceNeg, Nat.reduceMul, Int.reduceAdd, Int.reduceToNat, *]))
    | (with_reducible refine still_split ?_ ?_)
    | omega)
        all_goals first
          | (refine loop_end (i + 1, (i : Int) + 1) _ (by omega) ⟨by dsimp only; omega, .inr ⟨i, by omega, by dsimp only; omega, by rw [hg i (by omega)]; assumption, rfl⟩⟩ (by dsimp only; omega) (by simp (maxSteps := 1000000) (disch := omega) only [push_cast, go_sem, Nat.reduceEqDiff, ↓reduceIte, reduceCtorEq, Nat.reduceAdd, Nat.reduceSub, Nat.reduceLeDiff, Nat.reduceLT, Int.reduceLT, Int.reduceLE, Int.reduceEq, Int.reduceNeg, Nat.reduceMul, Int.reduceAdd, Int.reduceToNat, *]) (by simp (maxSteps := 1000000) (disch := omega) only [push_cast, go_sem, Nat.reduceEqDiff, ↓reduceIte, reduceCtorEq, Nat.reduceAdd, Nat.reduceSub, Nat.reduceLeDiff, Nat.reduceLT, Int.reduceLT, Int.reduceLE, Int.reduceEq, Int.reduceNeg, Nat.reduceMul, Int.reduceAdd, Int.reduceToNat, *]) (Nat.le_refl _))
          | (refine loop_end (i + 1, k) _ (by omega) ⟨by dsimp only; omega, keep (fun h h2 => by first | assumption | (exfalso; omega) | fail) hil⟩ (by dsimp only; omega) (by simp (maxSteps := 1000000) (disch := omega) only [push_cast, go_sem, Nat.reduceEqDiff, ↓reduceIte, reduceCtorEq, Nat.reduceAdd, Nat.reduceSub, Nat.reduceLeDiff, Nat.reduceLT, Int.reduceLT, Int.reduceLE, Int.reduceEq, Int.reduceNeg, Nat.reduceMul, Int.reduceAdd, Int.reduceToNat, *]) (by simp (maxSteps := 1000000) (disch := omega) only [push_cast, go_sem, Nat.reduceEqDiff, ↓reduceIte, reduceCtorEq, Nat.reduceAdd, Nat.reduceSub, Nat.reduceLeDiff, Nat.reduceLT, Int.reduceLT, Int.reduceLE, Int.reduceEq, Int.reduceNeg, Nat.reduceMul, Int.reduceAdd, Int.reduceToNat, *]) (Nat.le_refl _))
      · have hrk : k = r := isCode_uniq (hend (by omega)) hr
        subst hrk
        simp (maxSteps := 1000000) (disch := omega) only [push_cast, go_sem, Nat.reduceEqDiff, ↓reduceIte, reduceCtorEq, Nat.reduceAdd, Nat.reduceSub, Nat.reduceLeDiff, Nat.reduceLT, Int.reduceLT, Int.reduceLE, Int.reduceEq, Int.reduceNeg, Nat.reduceMul, Int.reduceAdd, Int.reduceToNat, *]
        repeat' (first
    | with_reducible refine And.intro ?_ ?_
    | (with_reducible intro hx; (try simp only [false_dec, true_dec, Int.ofNat_inj, gt_iff_lt, ge_iff_le, decide_eq_true_eq, decide_eq_false_iff_not, Bool.not_eq_true', Bool.not_eq_false', Bool.and_eq_true, Bool.or_eq_false_iff, ne_eq, Classical.not_not] at hx); (first | (exfalso; omega) | (try simp (maxSteps := 1000000) (disch := omega) only [push_cast, go_sem, Nat.reduceEqDiff, ↓reduceIte, reduceCtorEq, Nat.reduceAdd, Nat.reduceSub, Nat.reduceLeDiff, Nat.reduceLT, Int.reduceLT, Int.reduceLE, Int.reduceEq, Int.reduceNeg, Nat.reduceMul, Int.reduceAdd, Int.reduceToNat, *])))
    | (with_reducible refine branch_t ?_; (try simp (maxSteps := 1000000) (disch := omega) only [push_cast, go_sem, Nat.reduceEqDiff, ↓reduceIte, reduceCtorEq, Nat.reduceAdd, Nat.reduceSub, Nat.reduceLeDiff, Nat.reduceLT, Int.reduceLT, Int.reduceLE, Int.reduceEq, Int.reduceNeg, Nat.reduceMul, Int.reduceAdd, Int.reduceToNat, *]))
    | (with_reducible refine branch_f ?_; (try simp (maxSteps := 1000000) (disch := omega) only [push_cast, go_sem, Nat.reduceEqDiff, ↓reduceIte, reduceCtorEq, Nat.reduceAdd, Nat.reduceSub, Nat.reduceLeDiff, Nat.reduceLT, Int.reduceLT, Int.reduceLE, Int.reduceEq, Int.reduceNeg, Nat.reduceMul, Int.reduceAdd, Int.reduceToNat, *]))
    | (with_reducible refine cond_split ?_ ?_)
    | (with_reducible refine guard_split ?_ ?_)
    | ((with_reducible refine drw_open 0 ?_); simp (maxSteps := 1000000) (disch := omega) only [push_cast, go_sem, Nat.reduceEqDiff, ↓reduceIte, reduceCtorEq, Nat.reduceAdd, Nat.reduceSub, Nat.reduceLeDiff, Nat.reduceLT, Int.reduceLT, Int.reduceLE, Int.reduceEq, Int.reduceNeg, Nat.reduceMul, Int.reduceAdd, Int.reduceToNat, *]; (with_reducible refine drw_id ?_))
    | ((with_reducible refine drw_open 1 ?_); simp (maxSteps := 1000000) (disch := omega) only [push_cast, go_sem, Nat.reduceEqDiff, ↓reduceIte, reduceCtorEq, Nat.reduceAdd, Nat.reduceSub, Nat.reduceLeDiff, Nat.reduceLT, Int.reduceLT, Int.reduceLE, Int.reduceEq, Int.reduceNeg, Nat.reduceMul, Int.reduceAdd, Int.reduceToNat, *]; (with_reducible refine drw_id ?_))
    | ((with_reducible refine drw_open 2 ?_); simp (maxSteps := 1000000) (disch := omega) only [push_cast, go_sem, Nat.reduceEqDiff, ↓reduceIte, reduceCtorEq, Nat.reduceAdd, Nat.reduceSub, Nat.reduceLeDiff, Nat.reduceLT, Int.reduceLT, Int.reduceLE, Int.reduceEq, Int.reduceNeg, Nat.reduceMul, Int.reduceAdd, Int.reduceToNat, *]; (with_reducible refine drw_id ?_))
    | ((with_reducible refine drw_intro ?_ ?_); (focus decide +kernel); (try simp (maxSteps := 1000000) (disch := omega) only [push_cast, go_sem, Nat.reduceEqDiff, ↓reduceIte, reduceCtorEq, Nat.reduceAdd, Nat.reduceSub, Nat.reduceLeDiff, Nat.reduceLT, Int.reduceLT, Int.reduceLE, Int.reduceEq, Int.reduceNeg, Nat.reduceMul, Int.reduceAdd, Int.reduceToNat, *]))
    | (with_reducible refine still_split ?_ ?_)
    | ((with_reducible refine call_by2 [] (code_spec _ hr) (by first | (refine ⟨?_, ?_, ?_, ?_⟩ <;> ((try simp (maxSteps := 1000000) (disch := omega) only [push_cast, go_sem, Nat.reduceEqDiff, ↓reduceIte, reduceCtorEq, Nat.reduceAdd, Nat.reduceSub, Nat.reduceLeDiff, Nat.reduceLT, Int.reduceLT, Int.reduceLE, Int.reduceEq, Int.reduceNeg, Nat.reduceMul, Int.reduceAdd, Int.reduceToNat, *]); (try rfl); (try omega); done)) | fail) ?_) <;> (try simp (maxSteps := 1000000) (disch := omega) only [push_cast, go_sem, Nat.reduceEqDiff, ↓reduceIte, reduceCtorEq, Nat.reduceAdd, Nat.reduceSub, Nat.reduceLeDiff, Nat.reduceLT, Int.reduceLT, Int.reduceLE, Int.reduceEq, Int.reduceNeg, Nat.reduceMul, Int.reduceAdd, Int.reduceToNat, *]))
    | ((with_reducible refine call_by2 [] (awake19_spec) (by first | (refine ⟨?_, ?_, ?_, ?_⟩ <;> ((try simp (maxSteps := 1000000) (disch := omega) only [push_cast, go_sem, Nat.reduceEqDiff, ↓reduceIte, reduceCtorEq, Nat.reduceAdd, Nat.reduceSub, Nat.reduceLeDiff, Nat.reduceLT, Int.reduceLT, Int.reduceLE, Int.reduceEq, Int.reduceNeg, Nat.reduceMul, Int.reduceAdd, Int.reduceToNat, *]); (try rfl); (try omega); done)) | fail) ?_) <;> (try simp (maxSteps := 1000000) (disch := omega) only [push_cast, go_sem, Nat.reduceEqDiff, ↓reduceIte, reduceCtorEq, Nat.reduceAdd, Nat.reduceSub, Nat.reduceLeDiff, Nat.reduceLT, Int.reduceLT, Int.reduceLE, Int.reduceEq, Int.reduceNeg, Nat.reduceMul, Int.reduceAdd, Int.reduceToNat, *]))
    | omega)
    · have hg : ∀ (i : Nat) (h : i < W.length), W.getD i [] = W[i] := fun i h => by rw [List.getD_eq_getElem?_getD, List.getElem?_eq_getElem h]; rfl
      obtain ⟨r, hr⟩ := hcodes word
      refine loop_by (σ := Nat × Int) (fun x N => ([(41, .int .i64 x.1), (40, .int .i64 37), (39, .row 0 37 0 37), (6, .int .i64 x.2), (4, .bool false), (0, .int .i64 code), (1, .str (ofL word))], [(0, .row 1 (W.map encS) false)]))
        (fun x => x.1 ≤ 37 ∧ ((x.2 = 0 ∧ ∀ j : Nat, 2 ≤ j → j < x.1 → W.getD j [] ≠ word) ∨ ∃ j : Nat, 2 ≤ j ∧ j < x.1 ∧ W.getD j [] = word ∧ x.2 = j + 1)) (fun x => 37 - x.1) (0, 0) _ ⟨by simp, .inl ⟨rfl, fun j h1 h2 => by dsimp only at h2; omega⟩⟩ (by simp (maxSteps := 1000000) (disch := omega) only [push_cast, go_sem, Nat.reduceEqDiff, ↓reduceIte, reduceCtorEq, Nat.reduceAdd, Nat.reduceSub, Nat.reduceLeDiff, Nat.reduceLT, Int.reduceLT, Int.reduceLE, Int.reduceEq, Int.reduceNeg, Nat.reduceMul, Int.reduceAdd, Int.reduceToNat, *]) (by simp (maxSteps := 1000000) (disch := omega) only [push_cast, go_sem, Nat.reduceEqDiff, ↓reduceIte, reduceCtorEq, Nat.reduceAdd, Nat.reduceSub, Nat.reduceLeDiff, Nat.reduceLT, Int.reduceLT, Int.reduceLE, Int.reduceEq, Int.reduceNeg, Nat.reduceMul, Int.reduceAdd, Int.reduceToNat, *]) (Nat.le_refl _) ?_
      rintro ⟨i, k⟩ N hN ⟨hi, hk⟩
      dsimp only at hi hk
      have keep : (∀ h : i < W.length, 2 ≤ i → W[i] ≠ word) → i < 37 → ((k = 0 ∧ ∀ j : Nat, 2 ≤ j → j < i + 1 → W.getD j [] ≠ word) ∨ ∃ j : Nat, 2 ≤ j ∧ j < i + 1 ∧ W.getD j [] = word ∧ k = j + 1) := fun h hi37 => by
        rcases hk with ⟨h1, h2⟩ | ⟨j, h1, h2, h3, h4⟩
        · refine .inl ⟨h1, fun j h3 h4 => ?_⟩
          rcases Nat.lt_or_ge j i with h5 | h5
          · exact h2 j h3 h5
          · obtain rfl : j = i := by omega
            rw [hg j (by omega)]; exact h (by omega) h3
        · exact .inr ⟨j, h1, by omega, h3, h4⟩
      have hend : i = 37 → IsCode word k := fun e => by subst e; rw [IsCode, hW]; exact hk
      clear hk
      dsimp only
      by_cases hil : i < 37
      · simp (maxSteps := 1000000) (disch := omega) only [push_cast, go_sem, Nat.reduceEqDiff, ↓reduceIte, reduceCtorEq, Nat.reduceAdd, Nat.reduceSub, Nat.reduceLeDiff, Nat.reduceLT, Int.reduceLT, Int.reduceLE, Int.reduceEq, Int.reduceNeg, Nat.reduceMul, Int.reduceAdd, Int.reduceToNat, *]
        repeat' (first
    | with_reducible refine And.intro ?_ ?_
    | (with_reducible intro hx; (try simp only [false_dec, true_dec, Int.ofNat_inj, gt_iff_lt, ge_iff_le, decide_eq_true_eq, decide_eq_false_iff_not, Bool.not_eq_true', Bool.not_eq_false', Bool.and_eq_true, Bool.or_eq_false_iff, ne_eq, Classical.not_not] at hx); (first | (exfalso; omega) | (try simp (maxSteps := 1000000) (disch := omega) only [push_cast, go_sem, Nat.reduceEqDiff, ↓reduceIte, reduceCtorEq, Nat.reduceAdd, Nat.reduceSub, Nat.reduceLeDiff, Nat.reduceLT, Int.reduceLT, Int.reduceLE, Int.reduceEq, Int.reduceNeg, Nat.reduceMul, Int.reduceAdd, Int.reduceToNat, *])))
    | (with_reducible refine branch_t ?_; (try simp (maxSteps := 1000000) (disch := omega) only [push_cast, go_sem, Nat.reduceEqDiff, ↓reduceIte, reduceCtorEq, Nat.reduceAdd, Nat.reduceSub, Nat.reduceLeDiff, Nat.reduceLT, Int.reduceLT, Int.reduceLE, Int.reduceEq, Int.reduceNeg, Nat.reduceMul, Int.reduceAdd, Int.reduceToNat, *]))
    | (with_reducible refine branch_f ?_; (try simp (maxSteps := 1000000) (disch := omega) only [push_cast, go_sem, Nat.reduceEqDiff, ↓reduceIte, reduceCtorEq, Nat.reduceAdd, Nat.reduceSub, Nat.reduceLeDiff, Nat.reduceLT, Int.reduceLT, Int.reduceLE, Int.reduceEq, Int.reduceNeg, Nat.reduceMul, Int.reduceAdd, Int.reduceToNat, *]))
    | (with_reducible refine cond_split ?_ ?_)
    | (with_reducible refine guard_split ?_ ?_)
    | ((with_reducible refine drw_open 0 ?_); simp (maxSteps := 1000000) (disch := omega) only [push_cast, go_sem, Nat.reduceEqDiff, ↓reduceIte, reduceCtorEq, Nat.reduceAdd, Nat.reduceSub, Nat.reduceLeDiff, Nat.reduceLT, Int.reduceLT, Int.reduceLE, Int.reduceEq, Int.reduceNeg, Nat.reduceMul, Int.reduceAdd, Int.reduceToNat, *]; (with_reducible refine drw_id ?_))
    | ((with_reducible refine drw_open 1 ?_); simp (maxSteps := 1000000) (disch := omega) only [push_cast, go_sem, Nat.reduceEqDiff, ↓reduceIte, reduceCtorEq, Nat.reduceAdd, Nat.reduceSub, Nat.reduceLeDiff, Nat.reduceLT, Int.reduceLT, Int.reduceLE, Int.reduceEq, Int.reduceNeg, Nat.reduceMul, Int.reduceAdd, Int.reduceToNat, *]; (with_reducible refine drw_id ?_))
    | ((with_reducible refine drw_open 2 ?_); simp (maxSteps := 1000000) (disch := omega) only [push_cast, go_sem, Nat.reduceEqDiff, ↓reduceIte, reduceCtorEq, Nat.reduceAdd, Nat.reduceSub, Nat.reduceLeDiff, Nat.reduceLT, Int.reduceLT, Int.reduceLE, Int.reduceEq, Int.reduceNeg, Nat.reduceMul, Int.reduceAdd, Int.reduceToNat, *]; (with_reducible refine drw_id ?_))
    | ((with_reducible refine drw_intro ?_ ?_); (focus decide +kernel); (try simp (maxSteps := 1000000) (disch := omega) only [push_cast, go_sem, Nat.reduceEqDiff, ↓reduceIte, reduceCtorEq, Nat.reduceAdd, Nat.reduceSub, Nat.reduceLeDiff, Nat.reduceLT, Int.reduceLT, Int.reduceLE, Int.reduceEq, Int.reduceNeg, Nat.reduceMul, Int.reduceAdd, Int.reduceToNat, *]))
    | (with_reducible refine still_split ?_ ?_)
    | omega)
        all_goals first
          | (refine loop_end (i + 1, (i : Int) + 1) _ (by omega) ⟨by dsimp only; omega, .inr ⟨i, by omega, by dsimp only; omega, by rw [hg i (by omega)]; assumption, rfl⟩⟩ (by dsimp only; omega) (by simp (maxSteps := 1000000) (disch := omega) only [push_cast, go_sem, Nat.reduceEqDiff, ↓reduceIte, reduceCtorEq, Nat.reduceAdd, Nat.reduceSub, Nat.reduceLeDiff, Nat.reduceLT, Int.reduceLT, Int.reduceLE, Int.reduceEq, Int.reduceNeg, Nat.reduceMul, Int.reduceAdd, Int.reduceToNat, *]) (by simp (maxSteps := 1000000) (disch := omega) only [push_cast, go_sem, Nat.reduceEqDiff, ↓reduceIte, reduceCtorEq, Nat.reduceAdd, Nat.reduceSub, Nat.reduceLeDiff, Nat.reduceLT, Int.reduceLT, Int.reduceLE, Int.reduceEq, Int.reduceNeg, Nat.reduceMul, Int.reduceAdd, Int.reduceToNat, *]) (Nat.le_refl _))
          | (refine loop_end (i + 1, k) _ (by omega) ⟨by dsimp only; omega, keep (fun h h2 => by first | assumption | (exfalso; omega) | fail) hil⟩ (by dsimp only; omega) (by simp (maxSteps := 1000000) (disch := omega) only [push_cast, go_sem, Nat.reduceEqDiff, ↓reduceIte, reduceCtorEq, Nat.reduceAdd, Nat.reduceSub, Nat.reduceLeDiff, Nat.reduceLT, Int.reduceLT, Int.reduceLE, Int.reduceEq, Int.reduceNeg, Nat.reduceMul, Int.reduceAdd, Int.reduceToNat, *]) (by simp (maxSteps := 1000000) (disch := omega) only [push_cast, go_sem, Nat.reduceEqDiff, ↓reduceIte, reduceCtorEq, Nat.reduceAdd, Nat.reduceSub, Nat.reduceLeDiff, Nat.reduceLT, Int.reduceLT, Int.reduceLE, Int.reduceEq, Int.reduceNeg, Nat.reduceMul, Int.reduceAdd, Int.reduceToNat, *]) (Nat.le_refl _))
      · have hrk : k = r := isCode_uniq (hend (by omega)) hr
        subst hrk
        simp (maxSteps := 1000000) (disch := omega) only [push_cast, go_sem, Nat.reduceEqDiff, ↓reduceIte, reduceCtorEq, Nat.reduceAdd, Nat.reduceSub, Nat.reduceLeDiff, Nat.reduceLT, Int.reduceLT, Int.reduceLE, Int.reduceEq, Int.reduceNeg, Nat.reduceMul, Int.reduceAdd, Int.reduceToNat, *]
        repeat' (first
    | with_reducible refine And.intro ?_ ?_
    | (with_reducible intro hx; (try simp only [false_dec, true_dec, Int.ofNat_inj, gt_iff_lt, ge_iff_le, decide_eq_true_eq, decide_eq_false_iff_not, Bool.not_eq_true', Bool.not_eq_false', Bool.and_eq_true, Bool.or_eq_false_iff, ne_eq, Classical.not_not] at hx); (first | (exfalso; omega) | (try simp (maxSteps := 1000000) (disch := omega) only [push_cast, go_sem, Nat.reduceEqDiff, ↓reduceIte, reduceCtorEq, Nat.reduceAdd, Nat.reduceSub, Nat.reduceLeDiff, Nat.reduceLT, Int.reduceLT, Int.reduceLE, Int.reduceEq, Int.reduceNeg, Nat.reduceMul, Int.reduceAdd, Int.reduceToNat, *])))
    | (with_reducible refine branch_t ?_; (try simp (maxSteps := 1000000) (disch := omega) only [push_cast, go_sem, Nat.reduceEqDiff, ↓reduceIte, reduceCtorEq, Nat.reduceAdd, Nat.reduceSub, Nat.reduceLeDiff, Nat.reduceLT, Int.reduceLT, Int.reduceLE, Int.reduceEq, Int.reduceNeg, Nat.reduceMul, Int.reduceAdd, Int.reduceToNat, *]))
    | (with_reducible refine branch_f ?_; (try simp (maxSteps := 1000000) (disch := omega) only [push_cast, go_sem, Nat.reduceEqDiff, ↓reduceIte, reduceCtorEq, Nat.reduceAdd, Nat.reduceSub, Nat.reduceLeDiff, Nat.reduceLT, Int.reduceLT, Int.reduceLE, Int.reduceEq, Int.reduceNeg, Nat.reduceMul, Int.reduceAdd, Int.reduceToNat, *]))
    | (with_reducible refine cond_split ?_ ?_)
    | (with_reducible refine guard_split ?_ ?_)
    | ((with_reducible refine drw_open 0 ?_); simp (maxSteps := 1000000) (disch := omega) only [push_cast, go_sem, Nat.reduceEqDiff, ↓reduceIte, reduceCtorEq, Nat.reduceAdd, Nat.reduceSub, Nat.reduceLeDiff, Nat.reduceLT, Int.reduceLT, Int.reduceLE, Int.reduceEq, Int.reduceNeg, Nat.reduceMul, Int.reduceAdd, Int.reduceToNat, *]; (with_reducible refine drw_id ?_))
    | ((with_reducible refine drw_open 1 ?_); simp (maxSteps := 1000000) (disch := omega) only [push_cast, go_sem, Nat.reduceEqDiff, ↓reduceIte, reduceCtorEq, Nat.reduceAdd, Nat.reduceSub, Nat.reduceLeDiff, Nat.reduceLT, Int.reduceLT, Int.reduceLE, Int.reduceEq, Int.reduceNeg, Nat.reduceMul, Int.reduceAdd, Int.reduceToNat, *]; (with_reducible refine drw_id ?_))
    | ((with_reducible refine drw_open 2 ?_); simp (maxSteps := 1000000) (disch := omega) only [push_cast, go_sem, Nat.reduceEqDiff, ↓reduceIte, reduceCtorEq, Nat.reduceAdd, Nat.reduceSub, Nat.reduceLeDiff, Nat.reduceLT, Int.reduceLT, Int.reduceLE, Int.reduceEq, Int.reduceNeg, Nat.reduceMul, Int.reduceAdd, Int.reduceToNat, *]; (with_reducible refine drw_id ?_))
    | ((with_reducible refine drw_intro ?_ ?_); (focus decide +kernel); (try simp (maxSteps := 1000000) (disch := omega) only [push_cast, go_sem, Nat.reduceEqDiff, ↓reduceIte, reduceCtorEq, Nat.reduceAdd, Nat.reduceSub, Nat.reduceLeDiff, Nat.reduceLT, Int.reduceLT, Int.reduceLE, Int.reduceEq, Int.reduceNeg, Nat.reduceMul, Int.reduceAdd, Int.reduceToNat, *]))
    | (with_reducible refine still_split ?_ ?_)
    | ((with_reducible refine call_by2 [] (code_spec _ hr) (by first | (refine ⟨?_, ?_, ?_, ?_⟩ <;> ((try simp (maxSteps := 1000000) (disch := omega) only [push_cast, go_sem, Nat.reduceEqDiff, ↓reduceIte, reduceCtorEq, Nat.reduceAdd, Nat.reduceSub, Nat.reduceLeDiff, Nat.reduceLT, Int.reduceLT, Int.reduceLE, Int.reduceEq, Int.reduceNeg, Nat.reduceMul, Int.reduceAdd, Int.reduceToNat, *]); (try rfl); (try omega); done)) | fail) ?_) <;> (try simp (maxSteps := 1000000) (disch := omega) only [push_cast, go_sem, Nat.reduceEqDiff, ↓reduceIte, reduceCtorEq, Nat.reduceAdd, Nat.reduceSub, Nat.reduceLeDiff, Nat.reduceLT, Int.reduceLT, Int.reduceLE, Int.reduceEq, Int.reduceNeg, Nat.reduceMul, Int.reduceAdd, Int.reduceToNat, *]))
    | ((with_reducible refine call_by2 [] (awake19_spec) (by first | (refine ⟨?_, ?_, ?_, ?_⟩ <;> ((try simp (maxSteps := 1000000) (disch := omega) only [push_cast, go_sem, Nat.reduceEqDiff, ↓reduceIte, reduceCtorEq, Nat.reduceAdd, Nat.reduceSub, Nat.reduceLeDiff, Nat.reduceLT, Int.reduceLT, Int.reduceLE, Int.reduceEq, Int.reduceNeg, Nat.reduceMul, Int.reduceAdd, Int.reduceToNat, *]); (try rfl); (try omega); done)) | fail) ?_) <;> (try simp (maxSteps := 1000000) (disch := omega) only [push_cast, go_sem, Nat.reduceEqDiff, ↓reduceIte, reduceCtorEq, Nat.reduceAdd, Nat.reduceSub, Nat.reduceLeDiff, Nat.reduceLT, Int.reduceLT, Int.reduceLE, Int.reduceEq, Int.reduceNeg, Nat.reduceMul, Int.reduceAdd, Int.reduceToNat, *]))
    | omega)
    · have hg : ∀ (i : Nat) (h : i < W.length), W.getD i [] = W[i] := fun i h => by rw [List.getD_eq_getElem?_getD, List.getElem?_eq_getElem h]; rfl
      obtain ⟨r, hr⟩ := hcodes word
      refine loop_by (σ := Nat × Int) (fun x N => ([(41, .int .i64 x.1), (40, .int .i64 37), (39, .row 0 37 0 37), (6, .int .i64 x.2), (4, .bool false), (0, .int .i64 code), (1, .str (ofL word))], [(0, .row 1 (W.map encS) false)]))
        (fun x => x.1 ≤ 37 ∧ ((x.2 = 0 ∧ ∀ j : Nat, 2 ≤ j → j < x.1 → W.getD j [] ≠ word) ∨ ∃ j : Nat, 2 ≤ j ∧ j < x.1 ∧ W.getD j [] = word ∧ x.2 = j + 1)) (fun x => 37 - x.1) (0, 0) _ ⟨by simp, .inl ⟨rfl, fun j h1 h2 => by dsimp only at h2; omega⟩⟩ (by simp (maxSteps := 1000000) (disch := omega) only [push_cast, go_sem, Nat.reduceEqDiff, ↓reduceIte, reduceCtorEq, Nat.reduceAdd, Nat.reduceSub, Nat.reduceLeDiff, Nat.reduceLT, Int.reduceLT, Int.reduceLE, Int.reduceEq, Int.reduceNeg, Nat.reduceMul, Int.reduceAdd, Int.reduceToNat, *]) (by simp (maxSteps := 1000000) (disch := omega) only [push_cast, go_sem, Nat.reduceEqDiff, ↓reduceIte, reduceCtorEq, Nat.reduceAdd, Nat.reduceSub, Nat.reduceLeDiff, Nat.reduceLT, Int.reduceLT, Int.reduceLE, Int.reduceEq, Int.reduceNeg, Nat.reduceMul, Int.reduceAdd, Int.reduceToNat, *]) (Nat.le_refl _) ?_
      rintro ⟨i, k⟩ N hN ⟨hi, hk⟩
      dsimp only at hi hk
      have keep : (∀ h : i < W.length, 2 ≤ i → W[i] ≠ word) → i < 37 → ((k = 0 ∧ ∀ j : Nat, 2 ≤ j → j < i + 1 → W.getD j [] ≠ word) ∨ ∃ j : Nat, 2 ≤ j ∧ j < i + 1 ∧ W.getD j [] = word ∧ k = j + 1) := fun h hi37 => by
        rcases hk with ⟨h1, h2⟩ | ⟨j, h1, h2, h3, h4⟩
        · refine .inl ⟨h1, fun j h3 h4 => ?_⟩
          rcases Nat.lt_or_ge j i with h5 | h5
          · exact h2 j h3 h5
          · obtain rfl : j = i := by omega
            rw [hg j (by omega)]; exact h (by omega) h3
        · exact .inr ⟨j, h1, by omega, h3, h4⟩
      have hend : i = 37 → IsCode word k := fun e => by subst e; rw [IsCode, hW]; exact hk
      clear hk
      dsimp only
      by_cases hil : i < 37
      · simp (maxSteps := 1000000) (disch := omega) only [push_cast, go_sem, Nat.reduceEqDiff, ↓reduceIte, reduceCtorEq, Nat.reduceAdd, Nat.reduceSub, Nat.reduceLeDiff, Nat.reduceLT, Int.reduceLT, Int.reduceLE, Int.reduceEq, Int.reduceNeg, Nat.reduceMul, Int.reduceAdd, Int.reduceToNat, *]
        repeat' (first
    | with_reducible refine And.intro ?_ ?_
    | (with_reducible intro hx; (try simp only [false_dec, true_dec, Int.ofNat_inj, gt_iff_lt, ge_iff_le, decide_eq_true_eq, decide_eq_false_iff_not, Bool.not_eq_true', Bool.not_eq_false', Bool.and_eq_true, Bool.or_eq_false_iff, ne_eq, Classical.not_not] at hx); (first | (exfalso; omega) | (try simp (maxSteps := 1000000) (disch := omega) only [push_cast, go_sem, Nat.reduceEqDiff, ↓reduceIte, reduceCtorEq, Nat.reduceAdd, Nat.reduceSub, Nat.reduceLeDiff, Nat.reduceLT, Int.reduceLT, Int.reduceLE, Int.reduceEq, Int.reduceNeg, Nat.reduceMul, Int.reduceAdd, Int.reduceToNat, *])))
    | (with_reducible refine branch_t ?_; (try simp (maxSteps := 1000000) (disch := omega) only [push_cast, go_sem, Nat.reduceEqDiff, ↓reduceIte, reduceCtorEq, Nat.reduceAdd, Nat.reduceSub, Nat.reduceLeDiff, Nat.reduceLT, Int.reduceLT, Int.reduceLE, Int.reduceEq, Int.reduceNeg, Nat.reduceMul, Int.reduceAdd, Int.reduceToNat, *]))
    | (with_reducible refine branch_f ?_; (try simp (maxSteps := 1000000) (disch := omega) only [push_cast, go_sem, Nat.reduceEqDiff, ↓reduceIte, reduceCtorEq, Nat.reduceAdd, Nat.reduceSub, Nat.reduceLeDiff, Nat.reduceLT, Int.reduceLT, Int.reduceLE, Int.reduceEq, Int.reduceNeg, Nat.reduceMul, Int.reduceAdd, Int.reduceToNat, *]))
    | (with_reducible refine cond_split ?_ ?_)
    | (with_reducible refine guard_split ?_ ?_)
    | ((with_reducible refine drw_open 0 ?_); simp (maxSteps := 1000000) (disch := omega) only [push_cast, go_sem, Nat.reduceEqDiff, ↓reduceIte, reduceCtorEq, Nat.reduceAdd, Nat.reduceSub, Nat.reduceLeDiff, Nat.reduceLT, Int.reduceLT, Int.reduceLE, Int.reduceEq, Int.reduceNeg, Nat.reduceMul, Int.reduceAdd, Int.reduceToNat, *]; (with_reducible refine drw_id ?_))
    | ((with_reducible refine drw_open 1 ?_); simp (maxSteps := 1000000) (disch := omega) only [push_cast, go_sem, Nat.reduceEqDiff, ↓reduceIte, reduceCtorEq, Nat.reduceAdd, Nat.reduceSub, Nat.reduceLeDiff, Nat.reduceLT, Int.reduceLT, Int.reduceLE, Int.reduceEq, Int.reduceNeg, Nat.reduceMul, Int.reduceAdd, Int.reduceToNat, *]; (with_reducible refine drw_id ?_))
    | ((with_reducible refine drw_open 2 ?_); simp (maxSteps := 1000000) (disch := omega) only [push_cast, go_sem, Nat.reduceEqDiff, ↓reduceIte, reduceCtorEq, Nat.reduceAdd, Nat.reduceSub, Nat.reduceLeDiff, Nat.reduceLT, Int.reduceLT, Int.reduceLE, Int.reduceEq, Int.reduceNeg, Nat.reduceMul, Int.reduceAdd, Int.reduceToNat, *]; (with_reducible refine drw_id ?_))
    | ((with_reducible refine drw_intro ?_ ?_); (focus decide +kernel); (try simp (maxSteps := 1000000) (disch := omega) only [push_cast, go_sem, Nat.reduceEqDiff, ↓reduceIte, reduceCtorEq, Nat.reduceAdd, Nat.reduceSub, Nat.reduceLeDiff, Nat.reduceLT, Int.reduceLT, Int.reduceLE, Int.reduceEq, Int.reduceNeg, Nat.reduceMul, Int.reduceAdd, Int.reduceToNat, *]))
    | (with_reducible refine still_split ?_ ?_)
    | omega)
        all_goals first
          | (refine loop_end (i + 1, (i : Int) + 1) _ (by omega) ⟨by dsimp only; omega, .inr ⟨i, by omega, by dsimp only; omega, by rw [hg i (by omega)]; assumption, rfl⟩⟩ (by dsimp only; omega) (by simp (maxSteps := 1000000) (disch := omega) only [push_cast, go_sem, Nat.reduceEqDiff, ↓reduceIte, reduceCtorEq, Nat.reduceAdd, Nat.reduceSub, Nat.reduceLeDiff, Nat.reduceLT, Int.reduceLT, Int.reduceLE, Int.reduceEq, Int.reduceNeg, Nat.reduceMul, Int.reduceAdd, Int.reduceToNat, *]) (by simp (maxSteps := 1000000) (disch := omega) only [push_cast, go_sem, Nat.reduceEqDiff, ↓reduceIte, reduceCtorEq, Nat.reduceAdd, Nat.reduceSub, Nat.reduceLeDiff, Nat.reduceLT, Int.reduceLT, Int.reduceLE, Int.reduceEq, Int.reduceNeg, Nat.reduceMul, Int.reduceAdd, Int.reduceToNat, *]) (Nat.le_refl _))
          | (refine loop_end (i + 1, k) _ (by omega) ⟨by dsimp only; omega, keep (fun h h2 => by first | assumption | (exfalso; omega) | fail) hil⟩ (by dsimp only; omega) (by simp (maxSteps := 1000000) (disch := omega) only [push_cast, go_sem, Nat.reduceEqDiff, ↓reduceIte, reduceCtorEq, Nat.reduceAdd, Nat.reduceSub, Nat.reduceLeDiff, Nat.reduceLT, Int.reduceLT, Int.reduceLE, Int.reduceEq, Int.reduceNeg, Nat.reduceMul, Int.reduceAdd, Int.reduceToNat, *]) (by simp (maxSteps := 1000000) (disch := omega) only [push_cast, go_sem, Nat.reduceEqDiff, ↓reduceIte, reduceCtorEq, Nat.reduceAdd, Nat.reduceSub, Nat.reduceLeDiff, Nat.reduceLT, Int.reduceLT, Int.reduceLE, Int.reduceEq, Int.reduceNeg, Nat.reduceMul, Int.reduceAdd, Int.reduceToNat, *]) (Nat.le_refl _))
      · have hrk : k = r := isCode_uniq (hend (by omega)) hr
        subst hrk
        simp (maxSteps := 1000000) (disch := omega) only [push_cast, go_sem, Nat.reduceEqDiff, ↓reduceIte, reduceCtorEq, Nat.reduceAdd, Nat.reduceSub, Nat.reduceLeDiff, Nat.reduceLT, Int.reduceLT, Int.reduceLE, Int.reduceEq, Int.reduceNeg, Nat.reduceMul, Int.reduceAdd, Int.reduceToNat, *]
        repeat' (first
    | with_reducible refine And.intro ?_ ?_
    | (with_reducible intro hx; (try simp only [false_dec, true_dec, Int.ofNat_inj, gt_iff_lt, ge_iff_le, decide_eq_true_eq, decide_eq_false_iff_not, Bool.not_eq_true', Bool.not_eq_false', Bool.and_eq_true, Bool.or_eq_false_iff, ne_eq, Classical.not_not] at hx); (first | (exfalso; omega) | (try simp (maxSteps := 1000000) (disch := omega) only [push_cast, go_sem, Nat.reduceEqDiff, ↓reduceIte, reduceCtorEq, Nat.reduceAdd, Nat.reduceSub, Nat.reduceLeDiff, Nat.reduceLT, Int.reduceLT, Int.reduceLE, Int.reduceEq, Int.reduceNeg, Nat.reduceMul, Int.reduceAdd, Int.reduceToNat, *])))
    | (with_reducible refine branch_t ?_; (try simp (maxSteps := 1000000) (disch := omega) only [push_cast, go_sem, Nat.reduceEqDiff, ↓reduceIte, reduceCtorEq, Nat.reduceAdd, Nat.reduceSub, Nat.reduceLeDiff, Nat.reduceLT, Int.reduceLT, Int.reduceLE, Int.reduceEq, Int.reduceNeg, Nat.reduceMul, Int.reduceAdd, Int.reduceToNat, *]))
    | (with_reducible refine branch_f ?_; (try simp (maxSteps := 1000000) (disch := omega) only [push_cast, go_sem, Nat.reduceEqDiff, ↓reduceIte, reduceCtorEq, Nat.reduceAdd, Nat.reduceSub, Nat.reduceLeDiff, Nat.reduceLT, Int.reduceLT, Int.reduceLE, Int.reduceEq, Int.reduceNeg, Nat.reduceMul, Int.reduceAdd, Int.reduceToNat, *]))
    | (with_reducible refine cond_split ?_ ?_)
    | (with_reducible refine guard_split ?_ ?_)
    | ((with_reducible refine drw_open 0 ?_); simp (maxSteps := 1000000) (disch := omega) only [push_cast, go_sem, Nat.reduceEqDiff, ↓reduceIte, reduceCtorEq, Nat.reduceAdd, Nat.reduceSub, Nat.reduceLeDiff, Nat.reduceLT, Int.reduceLT, Int.reduceLE, Int.reduceEq, Int.reduceNeg, Nat.reduceMul, Int.reduceAdd, Int.reduceToNat, *]; (with_reducible refine drw_id ?_))
    | ((with_reducible refine drw_open 1 ?_); simp (maxSteps := 1000000) (disch := omega) only [push_cast, go_sem, Nat.reduceEqDiff, ↓reduceIte, reduceCtorEq, Nat.reduceAdd, Nat.reduceSub, Nat.reduceLeDiff, Nat.reduceLT, Int.reduceLT, Int.reduceLE, Int.reduceEq, Int.reduceNeg, Nat.reduceMul, Int.reduceAdd, Int.reduceToNat, *]; (with_reducible refine drw_id ?_))
    | ((with_reducible refine drw_open 2 ?_); simp (maxSteps := 1000000) (disch := omega) only [push_cast, go_sem, Nat.reduceEqDiff, ↓reduceIte, reduceCtorEq, Nat.reduceAdd, Nat.reduceSub, Nat.reduceLeDiff, Nat.reduceLT, Int.reduceLT, Int.reduceLE, Int.reduceEq, Int.reduceNeg, Nat.reduceMul, Int.reduceAdd, Int.reduceToNat, *]; (with_reducible refine drw_id ?_))
    | ((with_reducible refine drw_intro ?_ ?_); (focus decide +kernel); (try simp (maxSteps := 1000000) (disch := omega) only [push_cast, go_sem, Nat.reduceEqDiff, ↓reduceIte, reduceCtorEq, Nat.reduceAdd, Nat.reduceSub, Nat.reduceLeDiff, Nat.reduceLT, Int.reduceLT, Int.reduceLE, Int.reduceEq, Int.reduceNeg, Nat.reduceMul, Int.reduceAdd, Int.reduceToNat, *]))
    | (with_reducible refine still_split ?_ ?_)
    | ((with_reducible refine call_by2 [] (code_spec _ hr) (by first | (refine ⟨?_, ?_, ?_, ?_⟩ <;> ((try simp (maxSteps := 1000000) (disch := omega) only [push_cast, go_sem, Nat.reduceEqDiff, ↓reduceIte, reduceCtorEq, Nat.reduceAdd, Nat.reduceSub, Nat.reduceLeDiff, Nat.reduceLT, Int.reduceLT, Int.reduceLE, Int.reduceEq, Int.reduceNeg, Nat.reduceMul, Int.reduceAdd, Int.reduceToNat, *]); (try rfl); (try omega); done)) | fail) ?_) <;> (try simp (maxSteps := 1000000) (disch := omega) only [push_cast, go_sem, Nat.reduceEqDiff, ↓reduceIte, reduceCtorEq, Nat.reduceAdd, Nat.reduceSub, Nat.reduceLeDiff, Nat.reduceLT, Int.reduceLT, Int.reduceLE, Int.reduceEq, Int.reduceNeg, Nat.reduceMul, Int.reduceAdd, Int.reduceToNat, *]))
    | ((with_reducible refine call_by2 [] (awake19_spec) (by first | (refine ⟨?_, ?_, ?_, ?_⟩ <;> ((try simp (maxSteps := 1000000) (disch := omega) only [push_cast, go_sem, Nat.reduceEqDiff, ↓reduceIte, reduceCtorEq, Nat.reduceAdd, Nat.reduceSub, Nat.reduceLeDiff, Nat.reduceLT, Int.reduceLT, Int.reduceLE, Int.reduceEq, Int.reduceNeg, Nat.reduceMul, Int.reduceAdd, Int.reduceToNat, *]); (try rfl); (try omega); done)) | fail) ?_) <;> (try simp (maxSteps := 1000000) (disch := omega) only [push_cast, go_sem, Nat.reduceEqDiff, ↓reduceIte, reduceCtorEq, Nat.reduceAdd, Nat.reduceSub, Nat.reduceLeDiff, Nat.reduceLT, Int.reduceLT, Int.reduceLE, Int.reduceEq, Int.reduceNeg, Nat.reduceMul, Int.reduceAdd, Int.reduceToNat, *]))
    | omega)
end Go.Ev
