import Derived.Test.YtjmbfcodmmnbiaaDoorProg
import Derived.KernelRfl
import Derived.IntWalk
import Derived.Shelf.Strconv.Itoa4
import Derived.Shelf.Strconv.ParseIntPublic10
import Derived.Shelf.Strings.Search3
import Derived.Shelf.Strings.Split
import Derived.WalkKit
import Derived.Lib.Walk
import Derived.BigCall
import Derived.Lib.ParseIntBTie
import Derived.Test.YtjmbfcodmmnbiaaDoorT5
set_option linter.unusedVariables false
set_option linter.unusedSimpArgs false
/-
Type facts of the seat's program, printed by Facts.lean.
-/
set_option linter.unusedVariables false
namespace Go.Ev
open Go.Proofs
@[push_cast] theorem k0 : kindT Tryd.prog 0 = TK.other := by kernel_rfl
@[push_cast] theorem s0 : szT Tryd.prog 0 = 1 := by kernel_rfl
@[push_cast] theorem a0 : aggO Tryd.prog 0 = some false := by kernel_rfl
@[push_cast] theorem b0 : byT Tryd.prog 0 = 0 := by kernel_rfl
@[push_cast] theorem z0 : zeroT Tryd.prog 0 = AV.undef := by kernel_rfl
@[push_cast] theorem zk0 : zok Tryd.prog 0 = true := by kernel_rfl
@[push_cast] theorem bt0 : boolT Tryd.prog 0 = false := by kernel_rfl
@[push_cast] theorem pt0 : ptrT Tryd.prog 0 = false := by kernel_rfl
@[push_cast] theorem lt0 : leavesT Tryd.prog 0 = none := by kernel_rfl
@[push_cast] theorem k1 : kindT Tryd.prog 1 = TK.other := by kernel_rfl
@[push_cast] theorem s1 : szT Tryd.prog 1 = 1 := by kernel_rfl
@[push_cast] theorem a1 : aggO Tryd.prog 1 = some false := by kernel_rfl
@[push_cast] theorem b1 : byT Tryd.prog 1 = 8 := by kernel_rfl
@[push_cast] theorem z1 : zeroT Tryd.prog 1 = AV.nilf := by kernel_rfl
@[push_cast] theorem zk1 : zok Tryd.prog 1 = true := by kernel_rfl
@[push_cast] theorem bt1 : boolT Tryd.prog 1 = false := by kernel_rfl
@[push_cast] theorem pt1 : ptrT Tryd.prog 1 = false := by kernel_rfl
@[push_cast] theorem lt1 : leavesT Tryd.prog 1 = none := by kernel_rfl
@[push_cast] theorem k2 : kindT Tryd.prog 2 = TK.int IntKind.i64 := by kernel_rfl
@[push_cast] theorem s2 : szT Tryd.prog 2 = 1 := by kernel_rfl
@[push_cast] theorem a2 : aggO Tryd.prog 2 = some false := by kernel_rfl
@[push_cast] theorem b2 : byT Tryd.prog 2 = 8 := by kernel_rfl
@[push_cast] theorem z2 : zeroT Tryd.prog 2 = AV.int IntKind.i64 (Int.ofNat 0) := by kernel_rfl
@[push_cast] theorem zk2 : zok Tryd.prog 2 = true := by kernel_rfl
@[push_cast] theorem bt2 : boolT Tryd.prog 2 = false := by kernel_rfl
@[push_cast] theorem pt2 : ptrT Tryd.prog 2 = false := by kernel_rfl
@[push_cast] theorem lt2 : leavesT Tryd.prog 2 = none := by kernel_rfl
@[push_cast] theorem k3 : kindT Tryd.prog 3 = TK.int IntKind.i64 := by kernel_rfl
@[push_cast] theorem s3 : szT Tryd.prog 3 = 1 := by kernel_rfl
@[push_cast] theorem a3 : aggO Tryd.prog 3 = some false := by kernel_rfl
@[push_cast] theorem b3 : byT Tryd.prog 3 = 8 := by kernel_rfl
@[push_cast] theorem z3 : zeroT Tryd.prog 3 = AV.int IntKind.i64 (Int.ofNat 0) := by kernel_rfl
@[push_cast] theorem zk3 : zok Tryd.prog 3 = true := by kernel_rfl
@[push_cast] theorem bt3 : boolT Tryd.prog 3 = false := by kernel_rfl
@[push_cast] theorem pt3 : ptrT Tryd.prog 3 = false := by kernel_rfl
@[push_cast] theorem lt3 : leavesT Tryd.prog 3 = none := by kernel_rfl
@[push_cast] theorem k4 : kindT Tryd.prog 4 = TK.bool := by kernel_rfl
@[push_cast] theorem s4 : szT Tryd.prog 4 = 1 := by kernel_rfl
@[push_cast] theorem a4 : aggO Tryd.prog 4 = some false := by kernel_rfl
@[push_cast] theorem b4 : byT Tryd.prog 4 = 1 := by kernel_rfl
@[push_cast] theorem z4 : zeroT Tryd.prog 4 = AV.bool false := by kernel_rfl
@[push_cast] theorem zk4 : zok Tryd.prog 4 = true := by kernel_rfl
@[push_cast] theorem bt4 : boolT Tryd.prog 4 = true := by kernel_rfl
@[push_cast] theorem pt4 : ptrT Tryd.prog 4 = false := by kernel_rfl
@[push_cast] theorem lt4 : leavesT Tryd.prog 4 = none := by kernel_rfl
@[push_cast] theorem k5 : kindT Tryd.prog 5 = TK.int IntKind.u8 := by kernel_rfl
@[push_cast] theorem s5 : szT Tryd.prog 5 = 1 := by kernel_rfl
@[push_cast] theorem a5 : aggO Tryd.prog 5 = some false := by kernel_rfl
@[push_cast] theorem b5 : byT Tryd.prog 5 = 1 := by kernel_rfl
@[push_cast] theorem z5 : zeroT Tryd.prog 5 = AV.int IntKind.u8 (Int.ofNat 0) := by kernel_rfl
@[push_cast] theorem zk5 : zok Tryd.prog 5 = true := by kernel_rfl
@[push_cast] theorem bt5 : boolT Tryd.prog 5 = false := by kernel_rfl
@[push_cast] theorem pt5 : ptrT Tryd.prog 5 = false := by kernel_rfl
@[push_cast] theorem lt5 : leavesT Tryd.prog 5 = none := by kernel_rfl
@[push_cast] theorem k6 : kindT Tryd.prog 6 = TK.int IntKind.u8 := by kernel_rfl
@[push_cast] theorem s6 : szT Tryd.prog 6 = 1 := by kernel_rfl
@[push_cast] theorem a6 : aggO Tryd.prog 6 = some false := by kernel_rfl
@[push_cast] theorem b6 : byT Tryd.prog 6 = 1 := by kernel_rfl
@[push_cast] theorem z6 : zeroT Tryd.prog 6 = AV.int IntKind.u8 (Int.ofNat 0) := by kernel_rfl
@[push_cast] theorem zk6 : zok Tryd.prog 6 = true := by kernel_rfl
@[push_cast] theorem bt6 : boolT Tryd.prog 6 = false := by kernel_rfl
@[push_cast] theorem pt6 : ptrT Tryd.prog 6 = false := by kernel_rfl
@[push_cast] theorem lt6 : leavesT Tryd.prog 6 = none := by kernel_rfl
@[push_cast] theorem k7 : kindT Tryd.prog 7 = TK.struct := by kernel_rfl
@[push_cast] theorem s7 : szT Tryd.prog 7 = 4 := by kernel_rfl
@[push_cast] theorem a7 : aggO Tryd.prog 7 = some true := by kernel_rfl
@[push_cast] theorem b7 : byT Tryd.prog 7 = 24 := by kernel_rfl
@[push_cast] theorem z7 : zeroT Tryd.prog 7 = AV.agg [AV.int IntKind.i64 (Int.ofNat 0), AV.int IntKind.i64 (Int.ofNat 0), AV.bool false, AV.int IntKind.u8 (Int.ofNat 0)] := by kernel_rfl
@[push_cast] theorem zk7 : zok Tryd.prog 7 = true := by kernel_rfl
@[push_cast] theorem bt7 : boolT Tryd.prog 7 = false := by kernel_rfl
@[push_cast] theorem pt7 : ptrT Tryd.prog 7 = false := by kernel_rfl
@[push_cast] theorem lt7 : leavesT Tryd.prog 7 = some [LK.int IntKind.i64, LK.int IntKind.i64, LK.bool, LK.int IntKind.u8] := by kernel_rfl
@[push_cast] theorem fo7 : fieldsOk Tryd.prog 7 = true := by kernel_rfl
@[push_cast] theorem o7_0 : offT Tryd.prog 7 0 = some 0 := by kernel_rfl
@[push_cast] theorem f7_0 : fszT Tryd.prog 7 0 = 1 := by kernel_rfl
@[push_cast] theorem o7_1 : offT Tryd.prog 7 1 = some 1 := by kernel_rfl
@[push_cast] theorem f7_1 : fszT Tryd.prog 7 1 = 1 := by kernel_rfl
@[push_cast] theorem o7_2 : offT Tryd.prog 7 2 = some 2 := by kernel_rfl
@[push_cast] theorem f7_2 : fszT Tryd.prog 7 2 = 1 := by kernel_rfl
@[push_cast] theorem o7_3 : offT Tryd.prog 7 3 = some 3 := by kernel_rfl
@[push_cast] theorem f7_3 : fszT Tryd.prog 7 3 = 1 := by kernel_rfl
@[push_cast] theorem k8 : kindT Tryd.prog 8 = TK.struct := by kernel_rfl
@[push_cast] theorem s8 : szT Tryd.prog 8 = 4 := by kernel_rfl
@[push_cast] theorem a8 : aggO Tryd.prog 8 = some true := by kernel_rfl
@[push_cast] theorem b8 : byT Tryd.prog 8 = 24 := by kernel_rfl
@[push_cast] theorem z8 : zeroT Tryd.prog 8 = AV.agg [AV.int IntKind.i64 (Int.ofNat 0), AV.int IntKind.i64 (Int.ofNat 0), AV.bool false, AV.int IntKind.u8 (Int.ofNat 0)] := by kernel_rfl
@[push_cast] theorem zk8 : zok Tryd.prog 8 = true := by kernel_rfl
@[push_cast] theorem bt8 : boolT Tryd.prog 8 = false := by kernel_rfl
@[push_cast] theorem pt8 : ptrT Tryd.prog 8 = false := by kernel_rfl
@[push_cast] theorem lt8 : leavesT Tryd.prog 8 = some [LK.int IntKind.i64, LK.int IntKind.i64, LK.bool, LK.int IntKind.u8] := by kernel_rfl
@[push_cast] theorem fo8 : fieldsOk Tryd.prog 8 = true := by kernel_rfl
@[push_cast] theorem o8_0 : offT Tryd.prog 8 0 = some 0 := by kernel_rfl
@[push_cast] theorem f8_0 : fszT Tryd.prog 8 0 = 1 := by kernel_rfl
@[push_cast] theorem o8_1 : offT Tryd.prog 8 1 = some 1 := by kernel_rfl
@[push_cast] theorem f8_1 : fszT Tryd.prog 8 1 = 1 := by kernel_rfl
@[push_cast] theorem o8_2 : offT Tryd.prog 8 2 = some 2 := by kernel_rfl
@[push_cast] theorem f8_2 : fszT Tryd.prog 8 2 = 1 := by kernel_rfl
@[push_cast] theorem o8_3 : offT Tryd.prog 8 3 = some 3 := by kernel_rfl
@[push_cast] theorem f8_3 : fszT Tryd.prog 8 3 = 1 := by kernel_rfl
@[push_cast] theorem k9 : kindT Tryd.prog 9 = TK.str := by kernel_rfl
@[push_cast] theorem s9 : szT Tryd.prog 9 = 1 := by kernel_rfl
@[push_cast] theorem a9 : aggO Tryd.prog 9 = some false := by kernel_rfl
@[push_cast] theorem b9 : byT Tryd.prog 9 = 16 := by kernel_rfl
@[push_cast] theorem z9 : zeroT Tryd.prog 9 = AV.str { data := { toList := [] } } := by kernel_rfl
@[push_cast] theorem zk9 : zok Tryd.prog 9 = true := by kernel_rfl
@[push_cast] theorem bt9 : boolT Tryd.prog 9 = false := by kernel_rfl
@[push_cast] theorem pt9 : ptrT Tryd.prog 9 = false := by kernel_rfl
@[push_cast] theorem lt9 : leavesT Tryd.prog 9 = none := by kernel_rfl
@[push_cast] theorem k10 : kindT Tryd.prog 10 = TK.str := by kernel_rfl
@[push_cast] theorem s10 : szT Tryd.prog 10 = 1 := by kernel_rfl
@[push_cast] theorem a10 : aggO Tryd.prog 10 = some false := by kernel_rfl
@[push_cast] theorem b10 : byT Tryd.prog 10 = 16 := by kernel_rfl
@[push_cast] theorem z10 : zeroT Tryd.prog 10 = AV.str { data := { toList := [] } } := by kernel_rfl
@[push_cast] theorem zk10 : zok Tryd.prog 10 = true := by kernel_rfl
@[push_cast] theorem bt10 : boolT Tryd.prog 10 = false := by kernel_rfl
@[push_cast] theorem pt10 : ptrT Tryd.prog 10 = false := by kernel_rfl
@[push_cast] theorem lt10 : leavesT Tryd.prog 10 = none := by kernel_rfl
@[push_cast] theorem k11 : kindT Tryd.prog 11 = TK.str := by kernel_rfl
@[push_cast] theorem s11 : szT Tryd.prog 11 = 1 := by kernel_rfl
@[push_cast] theorem a11 : aggO Tryd.prog 11 = some false := by kernel_rfl
@[push_cast] theorem b11 : byT Tryd.prog 11 = 16 := by kernel_rfl
@[push_cast] theorem z11 : zeroT Tryd.prog 11 = AV.str { data := { toList := [] } } := by kernel_rfl
@[push_cast] theorem zk11 : zok Tryd.prog 11 = true := by kernel_rfl
@[push_cast] theorem bt11 : boolT Tryd.prog 11 = false := by kernel_rfl
@[push_cast] theorem pt11 : ptrT Tryd.prog 11 = false := by kernel_rfl
@[push_cast] theorem lt11 : leavesT Tryd.prog 11 = none := by kernel_rfl
@[push_cast] theorem k12 : kindT Tryd.prog 12 = TK.int IntKind.u64 := by kernel_rfl
@[push_cast] theorem s12 : szT Tryd.prog 12 = 1 := by kernel_rfl
@[push_cast] theorem a12 : aggO Tryd.prog 12 = some false := by kernel_rfl
@[push_cast] theorem b12 : byT Tryd.prog 12 = 8 := by kernel_rfl
@[push_cast] theorem z12 : zeroT Tryd.prog 12 = AV.int IntKind.u64 (Int.ofNat 0) := by kernel_rfl
@[push_cast] theorem zk12 : zok Tryd.prog 12 = true := by kernel_rfl
@[push_cast] theorem bt12 : boolT Tryd.prog 12 = false := by kernel_rfl
@[push_cast] theorem pt12 : ptrT Tryd.prog 12 = false := by kernel_rfl
@[push_cast] theorem lt12 : leavesT Tryd.prog 12 = none := by kernel_rfl
@[push_cast] theorem k13 : kindT Tryd.prog 13 = TK.struct := by kernel_rfl
@[push_cast] theorem s13 : szT Tryd.prog 13 = 2 := by kernel_rfl
@[push_cast] theorem a13 : aggO Tryd.prog 13 = some true := by kernel_rfl
@[push_cast] theorem b13 : byT Tryd.prog 13 = 24 := by kernel_rfl
@[push_cast] theorem z13 : zeroT Tryd.prog 13 = AV.agg [AV.str { data := { toList := [] } }, AV.int IntKind.u64 (Int.ofNat 0)] := by kernel_rfl
@[push_cast] theorem zk13 : zok Tryd.prog 13 = true := by kernel_rfl
@[push_cast] theorem bt13 : boolT Tryd.prog 13 = false := by kernel_rfl
@[push_cast] theorem pt13 : ptrT Tryd.prog 13 = false := by kernel_rfl
@[push_cast] theorem lt13 : leavesT Tryd.prog 13 = none := by kernel_rfl
@[push_cast] theorem fo13 : fieldsOk Tryd.prog 13 = true := by kernel_rfl
@[push_cast] theorem o13_0 : offT Tryd.prog 13 0 = some 0 := by kernel_rfl
@[push_cast] theorem f13_0 : fszT Tryd.prog 13 0 = 1 := by kernel_rfl
@[push_cast] theorem o13_1 : offT Tryd.prog 13 1 = some 1 := by kernel_rfl
@[push_cast] theorem f13_1 : fszT Tryd.prog 13 1 = 1 := by kernel_rfl
@[push_cast] theorem k14 : kindT Tryd.prog 14 = TK.struct := by kernel_rfl
@[push_cast] theorem s14 : szT Tryd.prog 14 = 2 := by kernel_rfl
@[push_cast] theorem a14 : aggO Tryd.prog 14 = some true := by kernel_rfl
@[push_cast] theorem b14 : byT Tryd.prog 14 = 24 := by kernel_rfl
@[push_cast] theorem z14 : zeroT Tryd.prog 14 = AV.agg [AV.str { data := { toList := [] } }, AV.int IntKind.u64 (Int.ofNat 0)] := by kernel_rfl
@[push_cast] theorem zk14 : zok Tryd.prog 14 = true := by kernel_rfl
@[push_cast] theorem bt14 : boolT Tryd.prog 14 = false := by kernel_rfl
@[push_cast] theorem pt14 : ptrT Tryd.prog 14 = false := by kernel_rfl
@[push_cast] theorem lt14 : leavesT Tryd.prog 14 = none := by kernel_rfl
@[push_cast] theorem fo14 : fieldsOk Tryd.prog 14 = true := by kernel_rfl
@[push_cast] theorem o14_0 : offT Tryd.prog 14 0 = some 0 := by kernel_rfl
@[push_cast] theorem f14_0 : fszT Tryd.prog 14 0 = 1 := by kernel_rfl
@[push_cast] theorem o14_1 : offT Tryd.prog 14 1 = some 1 := by kernel_rfl
@[push_cast] theorem f14_1 : fszT Tryd.prog 14 1 = 1 := by kernel_rfl
@[push_cast] theorem k15 : kindT Tryd.prog 15 = TK.ptr 152 := by kernel_rfl
@[push_cast] theorem s15 : szT Tryd.prog 15 = 1 := by kernel_rfl
@[push_cast] theorem a15 : aggO Tryd.prog 15 = some false := by kernel_rfl
@[push_cast] theorem b15 : byT Tryd.prog 15 = 8 := by kernel_rfl
@[push_cast] theorem z15 : zeroT Tryd.prog 15 = AV.nilp := by kernel_rfl
@[push_cast] theorem zk15 : zok Tryd.prog 15 = true := by kernel_rfl
@[push_cast] theorem bt15 : boolT Tryd.prog 15 = false := by kernel_rfl
@[push_cast] theorem pt15 : ptrT Tryd.prog 15 = true := by kernel_rfl
@[push_cast] theorem lt15 : leavesT Tryd.prog 15 = none := by kernel_rfl
@[push_cast] theorem k16 : kindT Tryd.prog 16 = TK.ptr 155 := by kernel_rfl
@[push_cast] theorem s16 : szT Tryd.prog 16 = 1 := by kernel_rfl
@[push_cast] theorem a16 : aggO Tryd.prog 16 = some false := by kernel_rfl
@[push_cast] theorem b16 : byT Tryd.prog 16 = 8 := by kernel_rfl
@[push_cast] theorem z16 : zeroT Tryd.prog 16 = AV.nilp := by kernel_rfl
@[push_cast] theorem zk16 : zok Tryd.prog 16 = true := by kernel_rfl
@[push_cast] theorem bt16 : boolT Tryd.prog 16 = false := by kernel_rfl
@[push_cast] theorem pt16 : ptrT Tryd.prog 16 = true := by kernel_rfl
@[push_cast] theorem lt16 : leavesT Tryd.prog 16 = none := by kernel_rfl
@[push_cast] theorem k17 : kindT Tryd.prog 17 = TK.ptr 163 := by kernel_rfl
@[push_cast] theorem s17 : szT Tryd.prog 17 = 1 := by kernel_rfl
@[push_cast] theorem a17 : aggO Tryd.prog 17 = some false := by kernel_rfl
@[push_cast] theorem b17 : byT Tryd.prog 17 = 8 := by kernel_rfl
@[push_cast] theorem z17 : zeroT Tryd.prog 17 = AV.nilp := by kernel_rfl
@[push_cast] theorem zk17 : zok Tryd.prog 17 = true := by kernel_rfl
@[push_cast] theorem bt17 : boolT Tryd.prog 17 = false := by kernel_rfl
@[push_cast] theorem pt17 : ptrT Tryd.prog 17 = true := by kernel_rfl
@[push_cast] theorem lt17 : leavesT Tryd.prog 17 = none := by kernel_rfl
@[push_cast] theorem k18 : kindT Tryd.prog 18 = TK.struct := by kernel_rfl
@[push_cast] theorem s18 : szT Tryd.prog 18 = 1 := by kernel_rfl
@[push_cast] theorem a18 : aggO Tryd.prog 18 = some true := by kernel_rfl
@[push_cast] theorem b18 : byT Tryd.prog 18 = 8 := by kernel_rfl
@[push_cast] theorem z18 : zeroT Tryd.prog 18 = AV.agg [AV.nilp] := by kernel_rfl
@[push_cast] theorem zk18 : zok Tryd.prog 18 = true := by kernel_rfl
@[push_cast] theorem bt18 : boolT Tryd.prog 18 = false := by kernel_rfl
@[push_cast] theorem pt18 : ptrT Tryd.prog 18 = false := by kernel_rfl
@[push_cast] theorem lt18 : leavesT Tryd.prog 18 = none := by kernel_rfl
@[push_cast] theorem fo18 : fieldsOk Tryd.prog 18 = true := by kernel_rfl
@[push_cast] theorem o18_0 : offT Tryd.prog 18 0 = some 0 := by kernel_rfl
@[push_cast] theorem f18_0 : fszT Tryd.prog 18 0 = 1 := by kernel_rfl
@[push_cast] theorem k19 : kindT Tryd.prog 19 = TK.struct := by kernel_rfl
@[push_cast] theorem s19 : szT Tryd.prog 19 = 1 := by kernel_rfl
@[push_cast] theorem a19 : aggO Tryd.prog 19 = some true := by kernel_rfl
@[push_cast] theorem b19 : byT Tryd.prog 19 = 8 := by kernel_rfl
@[push_cast] theorem z19 : zeroT Tryd.prog 19 = AV.agg [AV.nilp] := by kernel_rfl
@[push_cast] theorem zk19 : zok Tryd.prog 19 = true := by kernel_rfl
@[push_cast] theorem bt19 : boolT Tryd.prog 19 = false := by kernel_rfl
@[push_cast] theorem pt19 : ptrT Tryd.prog 19 = false := by kernel_rfl
@[push_cast] theorem lt19 : leavesT Tryd.prog 19 = none := by kernel_rfl
@[push_cast] theorem fo19 : fieldsOk Tryd.prog 19 = true := by kernel_rfl
@[push_cast] theorem o19_0 : offT Tryd.prog 19 0 = some 0 := by kernel_rfl
@[push_cast] theorem f19_0 : fszT Tryd.prog 19 0 = 1 := by kernel_rfl
@[push_cast] theorem k20 : kindT Tryd.prog 20 = TK.other := by kernel_rfl
@[push_cast] theorem s20 : szT Tryd.prog 20 = 1 := by kernel_rfl
@[push_cast] theorem a20 : aggO Tryd.prog 20 = some false := by kernel_rfl
@[push_cast] theorem b20 : byT Tryd.prog 20 = 16 := by kernel_rfl
@[push_cast] theorem z20 : zeroT Tryd.prog 20 = AV.nili := by kernel_rfl
@[push_cast] theorem zk20 : zok Tryd.prog 20 = true := by kernel_rfl
@[push_cast] theorem bt20 : boolT Tryd.prog 20 = false := by kernel_rfl
@[push_cast] theorem pt20 : ptrT Tryd.prog 20 = false := by kernel_rfl
@[push_cast] theorem lt20 : leavesT Tryd.prog 20 = none := by kernel_rfl
@[push_cast] theorem k21 : kindT Tryd.prog 21 = TK.int IntKind.i32 := by kernel_rfl
@[push_cast] theorem s21 : szT Tryd.prog 21 = 1 := by kernel_rfl
@[push_cast] theorem a21 : aggO Tryd.prog 21 = some false := by kernel_rfl
@[push_cast] theorem b21 : byT Tryd.prog 21 = 4 := by kernel_rfl
@[push_cast] theorem z21 : zeroT Tryd.prog 21 = AV.int IntKind.i32 (Int.ofNat 0) := by kernel_rfl
@[push_cast] theorem zk21 : zok Tryd.prog 21 = true := by kernel_rfl
@[push_cast] theorem bt21 : boolT Tryd.prog 21 = false := by kernel_rfl
@[push_cast] theorem pt21 : ptrT Tryd.prog 21 = false := by kernel_rfl
@[push_cast] theorem lt21 : leavesT Tryd.prog 21 = none := by kernel_rfl
@[push_cast] theorem k22 : kindT Tryd.prog 22 = TK.slice 50 := by kernel_rfl
@[push_cast] theorem s22 : szT Tryd.prog 22 = 1 := by kernel_rfl
@[push_cast] theorem a22 : aggO Tryd.prog 22 = some false := by kernel_rfl
@[push_cast] theorem b22 : byT Tryd.prog 22 = 24 := by kernel_rfl
@[push_cast] theorem z22 : zeroT Tryd.prog 22 = AV.olst 3 [] := by kernel_rfl
@[push_cast] theorem zk22 : zok Tryd.prog 22 = true := by kernel_rfl
@[push_cast] theorem bt22 : boolT Tryd.prog 22 = false := by kernel_rfl
@[push_cast] theorem pt22 : ptrT Tryd.prog 22 = false := by kernel_rfl
@[push_cast] theorem lt22 : leavesT Tryd.prog 22 = none := by kernel_rfl
@[push_cast] theorem k23 : kindT Tryd.prog 23 = TK.struct := by kernel_rfl
@[push_cast] theorem s23 : szT Tryd.prog 23 = 3 := by kernel_rfl
@[push_cast] theorem a23 : aggO Tryd.prog 23 = some true := by kernel_rfl
@[push_cast] theorem b23 : byT Tryd.prog 23 = 32 := by kernel_rfl
@[push_cast] theorem z23 : zeroT Tryd.prog 23 = AV.agg [AV.int IntKind.i64 (Int.ofNat 0), AV.int IntKind.i64 (Int.ofNat 0), AV.str { data := { toList := [] } }] := by kernel_rfl
@[push_cast] theorem zk23 : zok Tryd.prog 23 = true := by kernel_rfl
@[push_cast] theorem bt23 : boolT Tryd.prog 23 = false := by kernel_rfl
@[push_cast] theorem pt23 : ptrT Tryd.prog 23 = false := by kernel_rfl
@[push_cast] theorem lt23 : leavesT Tryd.prog 23 = some [LK.int IntKind.i64, LK.int IntKind.i64, LK.str] := by kernel_rfl
@[push_cast] theorem fo23 : fieldsOk Tryd.prog 23 = true := by kernel_rfl
@[push_cast] theorem o23_0 : offT Tryd.prog 23 0 = some 0 := by kernel_rfl
@[push_cast] theorem f23_0 : fszT Tryd.prog 23 0 = 1 := by kernel_rfl
@[push_cast] theorem o23_1 : offT Tryd.prog 23 1 = some 1 := by kernel_rfl
@[push_cast] theorem f23_1 : fszT Tryd.prog 23 1 = 1 := by kernel_rfl
@[push_cast] theorem o23_2 : offT Tryd.prog 23 2 = some 2 := by kernel_rfl
@[push_cast] theorem f23_2 : fszT Tryd.prog 23 2 = 1 := by kernel_rfl
@[push_cast] theorem k24 : kindT Tryd.prog 24 = TK.struct := by kernel_rfl
@[push_cast] theorem s24 : szT Tryd.prog 24 = 3 := by kernel_rfl
@[push_cast] theorem a24 : aggO Tryd.prog 24 = some true := by kernel_rfl
@[push_cast] theorem b24 : byT Tryd.prog 24 = 32 := by kernel_rfl
@[push_cast] theorem z24 : zeroT Tryd.prog 24 = AV.agg [AV.int IntKind.i64 (Int.ofNat 0), AV.int IntKind.i64 (Int.ofNat 0), AV.str { data := { toList := [] } }] := by kernel_rfl
@[push_cast] theorem zk24 : zok Tryd.prog 24 = true := by kernel_rfl
@[push_cast] theorem bt24 : boolT Tryd.prog 24 = false := by kernel_rfl
@[push_cast] theorem pt24 : ptrT Tryd.prog 24 = false := by kernel_rfl
@[push_cast] theorem lt24 : leavesT Tryd.prog 24 = some [LK.int IntKind.i64, LK.int IntKind.i64, LK.str] := by kernel_rfl
@[push_cast] theorem fo24 : fieldsOk Tryd.prog 24 = true := by kernel_rfl
@[push_cast] theorem o24_0 : offT Tryd.prog 24 0 = some 0 := by kernel_rfl
@[push_cast] theorem f24_0 : fszT Tryd.prog 24 0 = 1 := by kernel_rfl
@[push_cast] theorem o24_1 : offT Tryd.prog 24 1 = some 1 := by kernel_rfl
@[push_cast] theorem f24_1 : fszT Tryd.prog 24 1 = 1 := by kernel_rfl
@[push_cast] theorem o24_2 : offT Tryd.prog 24 2 = some 2 := by kernel_rfl
@[push_cast] theorem f24_2 : fszT Tryd.prog 24 2 = 1 := by kernel_rfl
@[push_cast] theorem k25 : kindT Tryd.prog 25 = TK.struct := by kernel_rfl
@[push_cast] theorem s25 : szT Tryd.prog 25 = 12 := by kernel_rfl
@[push_cast] theorem a25 : aggO Tryd.prog 25 = some true := by kernel_rfl
@[push_cast] theorem b25 : byT Tryd.prog 25 = 128 := by kernel_rfl
@[push_cast] theorem z25 : zeroT Tryd.prog 25 = AV.agg [AV.str { data := { toList := [] } }, AV.int IntKind.i64 (Int.ofNat 0), AV.int IntKind.i64 (Int.ofNat 0), AV.str { data := { toList := [] } }, AV.int IntKind.i64 (Int.ofNat 0), AV.int IntKind.i64 (Int.ofNat 0), AV.int IntKind.i64 (Int.ofNat 0), AV.int IntKind.i64 (Int.ofNat 0), AV.str { data := { toList := [] } }, AV.int IntKind.i64 (Int.ofNat 0), AV.int IntKind.i64 (Int.ofNat 0), AV.str { data := { toList := [] } }] := by kernel_rfl
@[push_cast] theorem zk25 : zok Tryd.prog 25 = true := by kernel_rfl
@[push_cast] theorem bt25 : boolT Tryd.prog 25 = false := by kernel_rfl
@[push_cast] theorem pt25 : ptrT Tryd.prog 25 = false := by kernel_rfl
@[push_cast] theorem lt25 : leavesT Tryd.prog 25 = some [LK.str, LK.int IntKind.i64, LK.int IntKind.i64, LK.str, LK.int IntKind.i64, LK.int IntKind.i64, LK.int IntKind.i64, LK.int IntKind.i64, LK.str, LK.int IntKind.i64, LK.int IntKind.i64, LK.str] := by kernel_rfl
@[push_cast] theorem fo25 : fieldsOk Tryd.prog 25 = true := by kernel_rfl
@[push_cast] theorem o25_0 : offT Tryd.prog 25 0 = some 0 := by kernel_rfl
@[push_cast] theorem f25_0 : fszT Tryd.prog 25 0 = 1 := by kernel_rfl
@[push_cast] theorem o25_1 : offT Tryd.prog 25 1 = some 1 := by kernel_rfl
@[push_cast] theorem f25_1 : fszT Tryd.prog 25 1 = 3 := by kernel_rfl
@[push_cast] theorem o25_2 : offT Tryd.prog 25 2 = some 4 := by kernel_rfl
@[push_cast] theorem f25_2 : fszT Tryd.prog 25 2 = 1 := by kernel_rfl
@[push_cast] theorem o25_3 : offT Tryd.prog 25 3 = some 5 := by kernel_rfl
@[push_cast] theorem f25_3 : fszT Tryd.prog 25 3 = 1 := by kernel_rfl
@[push_cast] theorem o25_4 : offT Tryd.prog 25 4 = some 6 := by kernel_rfl
@[push_cast] theorem f25_4 : fszT Tryd.prog 25 4 = 3 := by kernel_rfl
@[push_cast] theorem o25_5 : offT Tryd.prog 25 5 = some 9 := by kernel_rfl
@[push_cast] theorem f25_5 : fszT Tryd.prog 25 5 = 3 := by kernel_rfl
@[push_cast] theorem k26 : kindT Tryd.prog 26 = TK.struct := by kernel_rfl
@[push_cast] theorem s26 : szT Tryd.prog 26 = 12 := by kernel_rfl
@[push_cast] theorem a26 : aggO Tryd.prog 26 = some true := by kernel_rfl
@[push_cast] theorem b26 : byT Tryd.prog 26 = 128 := by kernel_rfl
@[push_cast] theorem z26 : zeroT Tryd.prog 26 = AV.agg [AV.str { data := { toList := [] } }, AV.int IntKind.i64 (Int.ofNat 0), AV.int IntKind.i64 (Int.ofNat 0), AV.str { data := { toList := [] } }, AV.int IntKind.i64 (Int.ofNat 0), AV.int IntKind.i64 (Int.ofNat 0), AV.int IntKind.i64 (Int.ofNat 0), AV.int IntKind.i64 (Int.ofNat 0), AV.str { data := { toList := [] } }, AV.int IntKind.i64 (Int.ofNat 0), AV.int IntKind.i64 (Int.ofNat 0), AV.str { data := { toList := [] } }] := by kernel_rfl
@[push_cast] theorem zk26 : zok Tryd.prog 26 = true := by kernel_rfl
@[push_cast] theorem bt26 : boolT Tryd.prog 26 = false := by kernel_rfl
@[push_cast] theorem pt26 : ptrT Tryd.prog 26 = false := by kernel_rfl
@[push_cast] theorem lt26 : leavesT Tryd.prog 26 = some [LK.str, LK.int IntKind.i64, LK.int IntKind.i64, LK.str, LK.int IntKind.i64, LK.int IntKind.i64, LK.int IntKind.i64, LK.int IntKind.i64, LK.str, LK.int IntKind.i64, LK.int IntKind.i64, LK.str] := by kernel_rfl
@[push_cast] theorem fo26 : fieldsOk Tryd.prog 26 = true := by kernel_rfl
@[push_cast] theorem o26_0 : offT Tryd.prog 26 0 = some 0 := by kernel_rfl
@[push_cast] theorem f26_0 : fszT Tryd.prog 26 0 = 1 := by kernel_rfl
@[push_cast] theorem o26_1 : offT Tryd.prog 26 1 = some 1 := by kernel_rfl
@[push_cast] theorem f26_1 : fszT Tryd.prog 26 1 = 3 := by kernel_rfl
@[push_cast] theorem o26_2 : offT Tryd.prog 26 2 = some 4 := by kernel_rfl
@[push_cast] theorem f26_2 : fszT Tryd.prog 26 2 = 1 := by kernel_rfl
@[push_cast] theorem o26_3 : offT Tryd.prog 26 3 = some 5 := by kernel_rfl
@[push_cast] theorem f26_3 : fszT Tryd.prog 26 3 = 1 := by kernel_rfl
@[push_cast] theorem o26_4 : offT Tryd.prog 26 4 = some 6 := by kernel_rfl
@[push_cast] theorem f26_4 : fszT Tryd.prog 26 4 = 3 := by kernel_rfl
@[push_cast] theorem o26_5 : offT Tryd.prog 26 5 = some 9 := by kernel_rfl
@[push_cast] theorem f26_5 : fszT Tryd.prog 26 5 = 3 := by kernel_rfl
@[push_cast] theorem k27 : kindT Tryd.prog 27 = TK.other := by kernel_rfl
@[push_cast] theorem s27 : szT Tryd.prog 27 = 1 := by kernel_rfl
@[push_cast] theorem a27 : aggO Tryd.prog 27 = some false := by kernel_rfl
@[push_cast] theorem b27 : byT Tryd.prog 27 = 8 := by kernel_rfl
@[push_cast] theorem z27 : zeroT Tryd.prog 27 = AV.nilf := by kernel_rfl
@[push_cast] theorem zk27 : zok Tryd.prog 27 = true := by kernel_rfl
@[push_cast] theorem bt27 : boolT Tryd.prog 27 = false := by kernel_rfl
@[push_cast] theorem pt27 : ptrT Tryd.prog 27 = false := by kernel_rfl
@[push_cast] theorem lt27 : leavesT Tryd.prog 27 = none := by kernel_rfl
@[push_cast] theorem k28 : kindT Tryd.prog 28 = TK.other := by kernel_rfl
@[push_cast] theorem s28 : szT Tryd.prog 28 = 1 := by kernel_rfl
@[push_cast] theorem a28 : aggO Tryd.prog 28 = some false := by kernel_rfl
@[push_cast] theorem b28 : byT Tryd.prog 28 = 8 := by kernel_rfl
@[push_cast] theorem z28 : zeroT Tryd.prog 28 = AV.nilf := by kernel_rfl
@[push_cast] theorem zk28 : zok Tryd.prog 28 = true := by kernel_rfl
@[push_cast] theorem bt28 : boolT Tryd.prog 28 = false := by kernel_rfl
@[push_cast] theorem pt28 : ptrT Tryd.prog 28 = false := by kernel_rfl
@[push_cast] theorem lt28 : leavesT Tryd.prog 28 = none := by kernel_rfl
@[push_cast] theorem k29 : kindT Tryd.prog 29 = TK.int IntKind.i64 := by kernel_rfl
@[push_cast] theorem s29 : szT Tryd.prog 29 = 1 := by kernel_rfl
@[push_cast] theorem a29 : aggO Tryd.prog 29 = some false := by kernel_rfl
@[push_cast] theorem b29 : byT Tryd.prog 29 = 8 := by kernel_rfl
@[push_cast] theorem z29 : zeroT Tryd.prog 29 = AV.int IntKind.i64 (Int.ofNat 0) := by kernel_rfl
@[push_cast] theorem zk29 : zok Tryd.prog 29 = true := by kernel_rfl
@[push_cast] theorem bt29 : boolT Tryd.prog 29 = false := by kernel_rfl
@[push_cast] theorem pt29 : ptrT Tryd.prog 29 = false := by kernel_rfl
@[push_cast] theorem lt29 : leavesT Tryd.prog 29 = none := by kernel_rfl
@[push_cast] theorem k30 : kindT Tryd.prog 30 = TK.other := by kernel_rfl
@[push_cast] theorem s30 : szT Tryd.prog 30 = 1 := by kernel_rfl
@[push_cast] theorem a30 : aggO Tryd.prog 30 = some false := by kernel_rfl
@[push_cast] theorem b30 : byT Tryd.prog 30 = 8 := by kernel_rfl
@[push_cast] theorem z30 : zeroT Tryd.prog 30 = AV.nilf := by kernel_rfl
@[push_cast] theorem zk30 : zok Tryd.prog 30 = true := by kernel_rfl
@[push_cast] theorem bt30 : boolT Tryd.prog 30 = false := by kernel_rfl
@[push_cast] theorem pt30 : ptrT Tryd.prog 30 = false := by kernel_rfl
@[push_cast] theorem lt30 : leavesT Tryd.prog 30 = none := by kernel_rfl
@[push_cast] theorem k31 : kindT Tryd.prog 31 = TK.other := by kernel_rfl
@[push_cast] theorem s31 : szT Tryd.prog 31 = 1 := by kernel_rfl
@[push_cast] theorem a31 : aggO Tryd.prog 31 = some false := by kernel_rfl
@[push_cast] theorem b31 : byT Tryd.prog 31 = 8 := by kernel_rfl
@[push_cast] theorem z31 : zeroT Tryd.prog 31 = AV.nilf := by kernel_rfl
@[push_cast] theorem zk31 : zok Tryd.prog 31 = true := by kernel_rfl
@[push_cast] theorem bt31 : boolT Tryd.prog 31 = false := by kernel_rfl
@[push_cast] theorem pt31 : ptrT Tryd.prog 31 = false := by kernel_rfl
@[push_cast] theorem lt31 : leavesT Tryd.prog 31 = none := by kernel_rfl
@[push_cast] theorem k32 : kindT Tryd.prog 32 = TK.other := by kernel_rfl
@[push_cast] theorem s32 : szT Tryd.prog 32 = 1 := by kernel_rfl
@[push_cast] theorem a32 : aggO Tryd.prog 32 = some false := by kernel_rfl
@[push_cast] theorem b32 : byT Tryd.prog 32 = 8 := by kernel_rfl
@[push_cast] theorem z32 : zeroT Tryd.prog 32 = AV.nilf := by kernel_rfl
@[push_cast] theorem zk32 : zok Tryd.prog 32 = true := by kernel_rfl
@[push_cast] theorem bt32 : boolT Tryd.prog 32 = false := by kernel_rfl
@[push_cast] theorem pt32 : ptrT Tryd.prog 32 = false := by kernel_rfl
@[push_cast] theorem lt32 : leavesT Tryd.prog 32 = none := by kernel_rfl
@[push_cast] theorem k33 : kindT Tryd.prog 33 = TK.struct := by kernel_rfl
@[push_cast] theorem s33 : szT Tryd.prog 33 = 3 := by kernel_rfl
@[push_cast] theorem a33 : aggO Tryd.prog 33 = some true := by kernel_rfl
@[push_cast] theorem b33 : byT Tryd.prog 33 = 32 := by kernel_rfl
@[push_cast] theorem z33 : zeroT Tryd.prog 33 = AV.agg [AV.int IntKind.i64 (Int.ofNat 0), AV.int IntKind.i64 (Int.ofNat 0), AV.str { data := { toList := [] } }] := by kernel_rfl
@[push_cast] theorem zk33 : zok Tryd.prog 33 = true := by kernel_rfl
@[push_cast] theorem bt33 : boolT Tryd.prog 33 = false := by kernel_rfl
@[push_cast] theorem pt33 : ptrT Tryd.prog 33 = false := by kernel_rfl
@[push_cast] theorem lt33 : leavesT Tryd.prog 33 = some [LK.int IntKind.i64, LK.int IntKind.i64, LK.str] := by kernel_rfl
@[push_cast] theorem fo33 : fieldsOk Tryd.prog 33 = true := by kernel_rfl
@[push_cast] theorem o33_0 : offT Tryd.prog 33 0 = some 0 := by kernel_rfl
@[push_cast] theorem f33_0 : fszT Tryd.prog 33 0 = 1 := by kernel_rfl
@[push_cast] theorem o33_1 : offT Tryd.prog 33 1 = some 1 := by kernel_rfl
@[push_cast] theorem f33_1 : fszT Tryd.prog 33 1 = 1 := by kernel_rfl
@[push_cast] theorem o33_2 : offT Tryd.prog 33 2 = some 2 := by kernel_rfl
@[push_cast] theorem f33_2 : fszT Tryd.prog 33 2 = 1 := by kernel_rfl
@[push_cast] theorem k34 : kindT Tryd.prog 34 = TK.other := by kernel_rfl
@[push_cast] theorem s34 : szT Tryd.prog 34 = 1 := by kernel_rfl
@[push_cast] theorem a34 : aggO Tryd.prog 34 = some false := by kernel_rfl
@[push_cast] theorem b34 : byT Tryd.prog 34 = 0 := by kernel_rfl
@[push_cast] theorem z34 : zeroT Tryd.prog 34 = AV.undef := by kernel_rfl
@[push_cast] theorem zk34 : zok Tryd.prog 34 = true := by kernel_rfl
@[push_cast] theorem bt34 : boolT Tryd.prog 34 = false := by kernel_rfl
@[push_cast] theorem pt34 : ptrT Tryd.prog 34 = false := by kernel_rfl
@[push_cast] theorem lt34 : leavesT Tryd.prog 34 = none := by kernel_rfl
@[push_cast] theorem k35 : kindT Tryd.prog 35 = TK.other := by kernel_rfl
@[push_cast] theorem s35 : szT Tryd.prog 35 = 1 := by kernel_rfl
@[push_cast] theorem a35 : aggO Tryd.prog 35 = some false := by kernel_rfl
@[push_cast] theorem b35 : byT Tryd.prog 35 = 8 := by kernel_rfl
@[push_cast] theorem z35 : zeroT Tryd.prog 35 = AV.nilf := by kernel_rfl
@[push_cast] theorem zk35 : zok Tryd.prog 35 = true := by kernel_rfl
@[push_cast] theorem bt35 : boolT Tryd.prog 35 = false := by kernel_rfl
@[push_cast] theorem pt35 : ptrT Tryd.prog 35 = false := by kernel_rfl
@[push_cast] theorem lt35 : leavesT Tryd.prog 35 = none := by kernel_rfl
@[push_cast] theorem k36 : kindT Tryd.prog 36 = TK.slice 48 := by kernel_rfl
@[push_cast] theorem s36 : szT Tryd.prog 36 = 1 := by kernel_rfl
@[push_cast] theorem a36 : aggO Tryd.prog 36 = some false := by kernel_rfl
@[push_cast] theorem b36 : byT Tryd.prog 36 = 24 := by kernel_rfl
@[push_cast] theorem z36 : zeroT Tryd.prog 36 = AV.olst 3 [] := by kernel_rfl
@[push_cast] theorem zk36 : zok Tryd.prog 36 = true := by kernel_rfl
@[push_cast] theorem bt36 : boolT Tryd.prog 36 = false := by kernel_rfl
@[push_cast] theorem pt36 : ptrT Tryd.prog 36 = false := by kernel_rfl
@[push_cast] theorem lt36 : leavesT Tryd.prog 36 = none := by kernel_rfl
@[push_cast] theorem k37 : kindT Tryd.prog 37 = TK.other := by kernel_rfl
@[push_cast] theorem s37 : szT Tryd.prog 37 = 1 := by kernel_rfl
@[push_cast] theorem a37 : aggO Tryd.prog 37 = some false := by kernel_rfl
@[push_cast] theorem b37 : byT Tryd.prog 37 = 8 := by kernel_rfl
@[push_cast] theorem z37 : zeroT Tryd.prog 37 = AV.nilf := by kernel_rfl
@[push_cast] theorem zk37 : zok Tryd.prog 37 = true := by kernel_rfl
@[push_cast] theorem bt37 : boolT Tryd.prog 37 = false := by kernel_rfl
@[push_cast] theorem pt37 : ptrT Tryd.prog 37 = false := by kernel_rfl
@[push_cast] theorem lt37 : leavesT Tryd.prog 37 = none := by kernel_rfl
@[push_cast] theorem k38 : kindT Tryd.prog 38 = TK.struct := by kernel_rfl
@[push_cast] theorem s38 : szT Tryd.prog 38 = 12 := by kernel_rfl
@[push_cast] theorem a38 : aggO Tryd.prog 38 = some true := by kernel_rfl
@[push_cast] theorem b38 : byT Tryd.prog 38 = 128 := by kernel_rfl
@[push_cast] theorem z38 : zeroT Tryd.prog 38 = AV.agg [AV.str { data := { toList := [] } }, AV.int IntKind.i64 (Int.ofNat 0), AV.int IntKind.i64 (Int.ofNat 0), AV.str { data := { toList := [] } }, AV.int IntKind.i64 (Int.ofNat 0), AV.int IntKind.i64 (Int.ofNat 0), AV.int IntKind.i64 (Int.ofNat 0), AV.int IntKind.i64 (Int.ofNat 0), AV.str { data := { toList := [] } }, AV.int IntKind.i64 (Int.ofNat 0), AV.int IntKind.i64 (Int.ofNat 0), AV.str { data := { toList := [] } }] := by kernel_rfl
@[push_cast] theorem zk38 : zok Tryd.prog 38 = true := by kernel_rfl
@[push_cast] theorem bt38 : boolT Tryd.prog 38 = false := by kernel_rfl
@[push_cast] theorem pt38 : ptrT Tryd.prog 38 = false := by kernel_rfl
@[push_cast] theorem lt38 : leavesT Tryd.prog 38 = some [LK.str, LK.int IntKind.i64, LK.int IntKind.i64, LK.str, LK.int IntKind.i64, LK.int IntKind.i64, LK.int IntKind.i64, LK.int IntKind.i64, LK.str, LK.int IntKind.i64, LK.int IntKind.i64, LK.str] := by kernel_rfl
@[push_cast] theorem fo38 : fieldsOk Tryd.prog 38 = true := by kernel_rfl
@[push_cast] theorem o38_0 : offT Tryd.prog 38 0 = some 0 := by kernel_rfl
@[push_cast] theorem f38_0 : fszT Tryd.prog 38 0 = 1 := by kernel_rfl
@[push_cast] theorem o38_1 : offT Tryd.prog 38 1 = some 1 := by kernel_rfl
@[push_cast] theorem f38_1 : fszT Tryd.prog 38 1 = 3 := by kernel_rfl
@[push_cast] theorem o38_2 : offT Tryd.prog 38 2 = some 4 := by kernel_rfl
@[push_cast] theorem f38_2 : fszT Tryd.prog 38 2 = 1 := by kernel_rfl
@[push_cast] theorem o38_3 : offT Tryd.prog 38 3 = some 5 := by kernel_rfl
@[push_cast] theorem f38_3 : fszT Tryd.prog 38 3 = 1 := by kernel_rfl
@[push_cast] theorem o38_4 : offT Tryd.prog 38 4 = some 6 := by kernel_rfl
@[push_cast] theorem f38_4 : fszT Tryd.prog 38 4 = 3 := by kernel_rfl
@[push_cast] theorem o38_5 : offT Tryd.prog 38 5 = some 9 := by kernel_rfl
@[push_cast] theorem f38_5 : fszT Tryd.prog 38 5 = 3 := by kernel_rfl
@[push_cast] theorem k39 : kindT Tryd.prog 39 = TK.struct := by kernel_rfl
@[push_cast] theorem s39 : szT Tryd.prog 39 = 12 := by kernel_rfl
@[push_cast] theorem a39 : aggO Tryd.prog 39 = some true := by kernel_rfl
@[push_cast] theorem b39 : byT Tryd.prog 39 = 128 := by kernel_rfl
@[push_cast] theorem z39 : zeroT Tryd.prog 39 = AV.agg [AV.str { data := { toList := [] } }, AV.int IntKind.i64 (Int.ofNat 0), AV.int IntKind.i64 (Int.ofNat 0), AV.str { data := { toList := [] } }, AV.int IntKind.i64 (Int.ofNat 0), AV.int IntKind.i64 (Int.ofNat 0), AV.int IntKind.i64 (Int.ofNat 0), AV.int IntKind.i64 (Int.ofNat 0), AV.str { data := { toList := [] } }, AV.int IntKind.i64 (Int.ofNat 0), AV.int IntKind.i64 (Int.ofNat 0), AV.str { data := { toList := [] } }] := by kernel_rfl
@[push_cast] theorem zk39 : zok Tryd.prog 39 = true := by kernel_rfl
@[push_cast] theorem bt39 : boolT Tryd.prog 39 = false := by kernel_rfl
@[push_cast] theorem pt39 : ptrT Tryd.prog 39 = false := by kernel_rfl
@[push_cast] theorem lt39 : leavesT Tryd.prog 39 = some [LK.str, LK.int IntKind.i64, LK.int IntKind.i64, LK.str, LK.int IntKind.i64, LK.int IntKind.i64, LK.int IntKind.i64, LK.int IntKind.i64, LK.str, LK.int IntKind.i64, LK.int IntKind.i64, LK.str] := by kernel_rfl
@[push_cast] theorem fo39 : fieldsOk Tryd.prog 39 = true := by kernel_rfl
@[push_cast] theorem o39_0 : offT Tryd.prog 39 0 = some 0 := by kernel_rfl
@[push_cast] theorem f39_0 : fszT Tryd.prog 39 0 = 1 := by kernel_rfl
@[push_cast] theorem o39_1 : offT Tryd.prog 39 1 = some 1 := by kernel_rfl
@[push_cast] theorem f39_1 : fszT Tryd.prog 39 1 = 3 := by kernel_rfl
@[push_cast] theorem o39_2 : offT Tryd.prog 39 2 = some 4 := by kernel_rfl
@[push_cast] theorem f39_2 : fszT Tryd.prog 39 2 = 1 := by kernel_rfl
@[push_cast] theorem o39_3 : offT Tryd.prog 39 3 = some 5 := by kernel_rfl
@[push_cast] theorem f39_3 : fszT Tryd.prog 39 3 = 1 := by kernel_rfl
@[push_cast] theorem o39_4 : offT Tryd.prog 39 4 = some 6 := by kernel_rfl
@[push_cast] theorem f39_4 : fszT Tryd.prog 39 4 = 3 := by kernel_rfl
@[push_cast] theorem o39_5 : offT Tryd.prog 39 5 = some 9 := by kernel_rfl
@[push_cast] theorem f39_5 : fszT Tryd.prog 39 5 = 3 := by kernel_rfl
@[push_cast] theorem k40 : kindT Tryd.prog 40 = TK.other := by kernel_rfl
@[push_cast] theorem s40 : szT Tryd.prog 40 = 1 := by kernel_rfl
@[push_cast] theorem a40 : aggO Tryd.prog 40 = some false := by kernel_rfl
@[push_cast] theorem b40 : byT Tryd.prog 40 = 8 := by kernel_rfl
@[push_cast] theorem z40 : zeroT Tryd.prog 40 = AV.nilf := by kernel_rfl
@[push_cast] theorem zk40 : zok Tryd.prog 40 = true := by kernel_rfl
@[push_cast] theorem bt40 : boolT Tryd.prog 40 = false := by kernel_rfl
@[push_cast] theorem pt40 : ptrT Tryd.prog 40 = false := by kernel_rfl
@[push_cast] theorem lt40 : leavesT Tryd.prog 40 = none := by kernel_rfl
@[push_cast] theorem k41 : kindT Tryd.prog 41 = TK.other := by kernel_rfl
@[push_cast] theorem s41 : szT Tryd.prog 41 = 1 := by kernel_rfl
@[push_cast] theorem a41 : aggO Tryd.prog 41 = some false := by kernel_rfl
@[push_cast] theorem b41 : byT Tryd.prog 41 = 8 := by kernel_rfl
@[push_cast] theorem z41 : zeroT Tryd.prog 41 = AV.nilf := by kernel_rfl
@[push_cast] theorem zk41 : zok Tryd.prog 41 = true := by kernel_rfl
@[push_cast] theorem bt41 : boolT Tryd.prog 41 = false := by kernel_rfl
@[push_cast] theorem pt41 : ptrT Tryd.prog 41 = false := by kernel_rfl
@[push_cast] theorem lt41 : leavesT Tryd.prog 41 = none := by kernel_rfl
@[push_cast] theorem k42 : kindT Tryd.prog 42 = TK.slice 9 := by kernel_rfl
@[push_cast] theorem s42 : szT Tryd.prog 42 = 1 := by kernel_rfl
@[push_cast] theorem a42 : aggO Tryd.prog 42 = some false := by kernel_rfl
@[push_cast] theorem b42 : byT Tryd.prog 42 = 24 := by kernel_rfl
@[push_cast] theorem z42 : zeroT Tryd.prog 42 = AV.olst 1 [] := by kernel_rfl
@[push_cast] theorem zk42 : zok Tryd.prog 42 = true := by kernel_rfl
@[push_cast] theorem bt42 : boolT Tryd.prog 42 = false := by kernel_rfl
@[push_cast] theorem pt42 : ptrT Tryd.prog 42 = false := by kernel_rfl
@[push_cast] theorem lt42 : leavesT Tryd.prog 42 = none := by kernel_rfl
@[push_cast] theorem k43 : kindT Tryd.prog 43 = TK.other := by kernel_rfl
@[push_cast] theorem s43 : szT Tryd.prog 43 = 1 := by kernel_rfl
@[push_cast] theorem a43 : aggO Tryd.prog 43 = some false := by kernel_rfl
@[push_cast] theorem b43 : byT Tryd.prog 43 = 8 := by kernel_rfl
@[push_cast] theorem z43 : zeroT Tryd.prog 43 = AV.nilf := by kernel_rfl
@[push_cast] theorem zk43 : zok Tryd.prog 43 = true := by kernel_rfl
@[push_cast] theorem bt43 : boolT Tryd.prog 43 = false := by kernel_rfl
@[push_cast] theorem pt43 : ptrT Tryd.prog 43 = false := by kernel_rfl
@[push_cast] theorem lt43 : leavesT Tryd.prog 43 = none := by kernel_rfl
@[push_cast] theorem k44 : kindT Tryd.prog 44 = TK.other := by kernel_rfl
@[push_cast] theorem s44 : szT Tryd.prog 44 = 1 := by kernel_rfl
@[push_cast] theorem a44 : aggO Tryd.prog 44 = some false := by kernel_rfl
@[push_cast] theorem b44 : byT Tryd.prog 44 = 8 := by kernel_rfl
@[push_cast] theorem z44 : zeroT Tryd.prog 44 = AV.nilf := by kernel_rfl
@[push_cast] theorem zk44 : zok Tryd.prog 44 = true := by kernel_rfl
@[push_cast] theorem bt44 : boolT Tryd.prog 44 = false := by kernel_rfl
@[push_cast] theorem pt44 : ptrT Tryd.prog 44 = false := by kernel_rfl
@[push_cast] theorem lt44 : leavesT Tryd.prog 44 = none := by kernel_rfl
@[push_cast] theorem k45 : kindT Tryd.prog 45 = TK.other := by kernel_rfl
@[push_cast] theorem s45 : szT Tryd.prog 45 = 1 := by kernel_rfl
@[push_cast] theorem a45 : aggO Tryd.prog 45 = some false := by kernel_rfl
@[push_cast] theorem b45 : byT Tryd.prog 45 = 8 := by kernel_rfl
@[push_cast] theorem z45 : zeroT Tryd.prog 45 = AV.nilf := by kernel_rfl
@[push_cast] theorem zk45 : zok Tryd.prog 45 = true := by kernel_rfl
@[push_cast] theorem bt45 : boolT Tryd.prog 45 = false := by kernel_rfl
@[push_cast] theorem pt45 : ptrT Tryd.prog 45 = false := by kernel_rfl
@[push_cast] theorem lt45 : leavesT Tryd.prog 45 = none := by kernel_rfl
@[push_cast] theorem k46 : kindT Tryd.prog 46 = TK.other := by kernel_rfl
@[push_cast] theorem s46 : szT Tryd.prog 46 = 1 := by kernel_rfl
@[push_cast] theorem a46 : aggO Tryd.prog 46 = some false := by kernel_rfl
@[push_cast] theorem b46 : byT Tryd.prog 46 = 8 := by kernel_rfl
@[push_cast] theorem z46 : zeroT Tryd.prog 46 = AV.nilf := by kernel_rfl
@[push_cast] theorem zk46 : zok Tryd.prog 46 = true := by kernel_rfl
@[push_cast] theorem bt46 : boolT Tryd.prog 46 = false := by kernel_rfl
@[push_cast] theorem pt46 : ptrT Tryd.prog 46 = false := by kernel_rfl
@[push_cast] theorem lt46 : leavesT Tryd.prog 46 = none := by kernel_rfl
@[push_cast] theorem k47 : kindT Tryd.prog 47 = TK.struct := by kernel_rfl
@[push_cast] theorem s47 : szT Tryd.prog 47 = 3 := by kernel_rfl
@[push_cast] theorem a47 : aggO Tryd.prog 47 = some true := by kernel_rfl
@[push_cast] theorem b47 : byT Tryd.prog 47 = 32 := by kernel_rfl
@[push_cast] theorem z47 : zeroT Tryd.prog 47 = AV.agg [AV.int IntKind.i64 (Int.ofNat 0), AV.int IntKind.i64 (Int.ofNat 0), AV.str { data := { toList := [] } }] := by kernel_rfl
@[push_cast] theorem zk47 : zok Tryd.prog 47 = true := by kernel_rfl
@[push_cast] theorem bt47 : boolT Tryd.prog 47 = false := by kernel_rfl
@[push_cast] theorem pt47 : ptrT Tryd.prog 47 = false := by kernel_rfl
@[push_cast] theorem lt47 : leavesT Tryd.prog 47 = some [LK.int IntKind.i64, LK.int IntKind.i64, LK.str] := by kernel_rfl
@[push_cast] theorem fo47 : fieldsOk Tryd.prog 47 = true := by kernel_rfl
@[push_cast] theorem o47_0 : offT Tryd.prog 47 0 = some 0 := by kernel_rfl
@[push_cast] theorem f47_0 : fszT Tryd.prog 47 0 = 1 := by kernel_rfl
@[push_cast] theorem o47_1 : offT Tryd.prog 47 1 = some 1 := by kernel_rfl
@[push_cast] theorem f47_1 : fszT Tryd.prog 47 1 = 1 := by kernel_rfl
@[push_cast] theorem o47_2 : offT Tryd.prog 47 2 = some 2 := by kernel_rfl
@[push_cast] theorem f47_2 : fszT Tryd.prog 47 2 = 1 := by kernel_rfl
@[push_cast] theorem k48 : kindT Tryd.prog 48 = TK.struct := by kernel_rfl
@[push_cast] theorem s48 : szT Tryd.prog 48 = 3 := by kernel_rfl
@[push_cast] theorem a48 : aggO Tryd.prog 48 = some true := by kernel_rfl
@[push_cast] theorem b48 : byT Tryd.prog 48 = 32 := by kernel_rfl
@[push_cast] theorem z48 : zeroT Tryd.prog 48 = AV.agg [AV.int IntKind.i64 (Int.ofNat 0), AV.int IntKind.i64 (Int.ofNat 0), AV.str { data := { toList := [] } }] := by kernel_rfl
@[push_cast] theorem zk48 : zok Tryd.prog 48 = true := by kernel_rfl
@[push_cast] theorem bt48 : boolT Tryd.prog 48 = false := by kernel_rfl
@[push_cast] theorem pt48 : ptrT Tryd.prog 48 = false := by kernel_rfl
@[push_cast] theorem lt48 : leavesT Tryd.prog 48 = some [LK.int IntKind.i64, LK.int IntKind.i64, LK.str] := by kernel_rfl
@[push_cast] theorem fo48 : fieldsOk Tryd.prog 48 = true := by kernel_rfl
@[push_cast] theorem o48_0 : offT Tryd.prog 48 0 = some 0 := by kernel_rfl
@[push_cast] theorem f48_0 : fszT Tryd.prog 48 0 = 1 := by kernel_rfl
@[push_cast] theorem o48_1 : offT Tryd.prog 48 1 = some 1 := by kernel_rfl
@[push_cast] theorem f48_1 : fszT Tryd.prog 48 1 = 1 := by kernel_rfl
@[push_cast] theorem o48_2 : offT Tryd.prog 48 2 = some 2 := by kernel_rfl
@[push_cast] theorem f48_2 : fszT Tryd.prog 48 2 = 1 := by kernel_rfl
@[push_cast] theorem k49 : kindT Tryd.prog 49 = TK.other := by kernel_rfl
@[push_cast] theorem s49 : szT Tryd.prog 49 = 1 := by kernel_rfl
@[push_cast] theorem a49 : aggO Tryd.prog 49 = some false := by kernel_rfl
@[push_cast] theorem b49 : byT Tryd.prog 49 = 8 := by kernel_rfl
@[push_cast] theorem z49 : zeroT Tryd.prog 49 = AV.nilf := by kernel_rfl
@[push_cast] theorem zk49 : zok Tryd.prog 49 = true := by kernel_rfl
@[push_cast] theorem bt49 : boolT Tryd.prog 49 = false := by kernel_rfl
@[push_cast] theorem pt49 : ptrT Tryd.prog 49 = false := by kernel_rfl
@[push_cast] theorem lt49 : leavesT Tryd.prog 49 = none := by kernel_rfl
@[push_cast] theorem k50 : kindT Tryd.prog 50 = TK.struct := by kernel_rfl
@[push_cast] theorem s50 : szT Tryd.prog 50 = 3 := by kernel_rfl
@[push_cast] theorem a50 : aggO Tryd.prog 50 = some true := by kernel_rfl
@[push_cast] theorem b50 : byT Tryd.prog 50 = 32 := by kernel_rfl
@[push_cast] theorem z50 : zeroT Tryd.prog 50 = AV.agg [AV.int IntKind.i64 (Int.ofNat 0), AV.int IntKind.i64 (Int.ofNat 0), AV.str { data := { toList := [] } }] := by kernel_rfl
@[push_cast] theorem zk50 : zok Tryd.prog 50 = true := by kernel_rfl
@[push_cast] theorem bt50 : boolT Tryd.prog 50 = false := by kernel_rfl
@[push_cast] theorem pt50 : ptrT Tryd.prog 50 = false := by kernel_rfl
@[push_cast] theorem lt50 : leavesT Tryd.prog 50 = some [LK.int IntKind.i64, LK.int IntKind.i64, LK.str] := by kernel_rfl
@[push_cast] theorem fo50 : fieldsOk Tryd.prog 50 = true := by kernel_rfl
@[push_cast] theorem o50_0 : offT Tryd.prog 50 0 = some 0 := by kernel_rfl
@[push_cast] theorem f50_0 : fszT Tryd.prog 50 0 = 1 := by kernel_rfl
@[push_cast] theorem o50_1 : offT Tryd.prog 50 1 = some 1 := by kernel_rfl
@[push_cast] theorem f50_1 : fszT Tryd.prog 50 1 = 1 := by kernel_rfl
@[push_cast] theorem o50_2 : offT Tryd.prog 50 2 = some 2 := by kernel_rfl
@[push_cast] theorem f50_2 : fszT Tryd.prog 50 2 = 1 := by kernel_rfl
@[push_cast] theorem k51 : kindT Tryd.prog 51 = TK.other := by kernel_rfl
@[push_cast] theorem s51 : szT Tryd.prog 51 = 1 := by kernel_rfl
@[push_cast] theorem a51 : aggO Tryd.prog 51 = some false := by kernel_rfl
@[push_cast] theorem b51 : byT Tryd.prog 51 = 8 := by kernel_rfl
@[push_cast] theorem z51 : zeroT Tryd.prog 51 = AV.nilf := by kernel_rfl
@[push_cast] theorem zk51 : zok Tryd.prog 51 = true := by kernel_rfl
@[push_cast] theorem bt51 : boolT Tryd.prog 51 = false := by kernel_rfl
@[push_cast] theorem pt51 : ptrT Tryd.prog 51 = false := by kernel_rfl
@[push_cast] theorem lt51 : leavesT Tryd.prog 51 = none := by kernel_rfl
@[push_cast] theorem k52 : kindT Tryd.prog 52 = TK.other := by kernel_rfl
@[push_cast] theorem s52 : szT Tryd.prog 52 = 1 := by kernel_rfl
@[push_cast] theorem a52 : aggO Tryd.prog 52 = some false := by kernel_rfl
@[push_cast] theorem b52 : byT Tryd.prog 52 = 8 := by kernel_rfl
@[push_cast] theorem z52 : zeroT Tryd.prog 52 = AV.nilf := by kernel_rfl
@[push_cast] theorem zk52 : zok Tryd.prog 52 = true := by kernel_rfl
@[push_cast] theorem bt52 : boolT Tryd.prog 52 = false := by kernel_rfl
@[push_cast] theorem pt52 : ptrT Tryd.prog 52 = false := by kernel_rfl
@[push_cast] theorem lt52 : leavesT Tryd.prog 52 = none := by kernel_rfl
@[push_cast] theorem k53 : kindT Tryd.prog 53 = TK.other := by kernel_rfl
@[push_cast] theorem s53 : szT Tryd.prog 53 = 1 := by kernel_rfl
@[push_cast] theorem a53 : aggO Tryd.prog 53 = some false := by kernel_rfl
@[push_cast] theorem b53 : byT Tryd.prog 53 = 0 := by kernel_rfl
@[push_cast] theorem z53 : zeroT Tryd.prog 53 = AV.undef := by kernel_rfl
@[push_cast] theorem zk53 : zok Tryd.prog 53 = true := by kernel_rfl
@[push_cast] theorem bt53 : boolT Tryd.prog 53 = false := by kernel_rfl
@[push_cast] theorem pt53 : ptrT Tryd.prog 53 = false := by kernel_rfl
@[push_cast] theorem lt53 : leavesT Tryd.prog 53 = none := by kernel_rfl
@[push_cast] theorem k54 : kindT Tryd.prog 54 = TK.other := by kernel_rfl
@[push_cast] theorem s54 : szT Tryd.prog 54 = 1 := by kernel_rfl
@[push_cast] theorem a54 : aggO Tryd.prog 54 = some false := by kernel_rfl
@[push_cast] theorem b54 : byT Tryd.prog 54 = 8 := by kernel_rfl
@[push_cast] theorem z54 : zeroT Tryd.prog 54 = AV.nilf := by kernel_rfl
@[push_cast] theorem zk54 : zok Tryd.prog 54 = true := by kernel_rfl
@[push_cast] theorem bt54 : boolT Tryd.prog 54 = false := by kernel_rfl
@[push_cast] theorem pt54 : ptrT Tryd.prog 54 = false := by kernel_rfl
@[push_cast] theorem lt54 : leavesT Tryd.prog 54 = none := by kernel_rfl
@[push_cast] theorem k55 : kindT Tryd.prog 55 = TK.other := by kernel_rfl
@[push_cast] theorem s55 : szT Tryd.prog 55 = 1 := by kernel_rfl
@[push_cast] theorem a55 : aggO Tryd.prog 55 = some false := by kernel_rfl
@[push_cast] theorem b55 : byT Tryd.prog 55 = 8 := by kernel_rfl
@[push_cast] theorem z55 : zeroT Tryd.prog 55 = AV.nilf := by kernel_rfl
@[push_cast] theorem zk55 : zok Tryd.prog 55 = true := by kernel_rfl
@[push_cast] theorem bt55 : boolT Tryd.prog 55 = false := by kernel_rfl
@[push_cast] theorem pt55 : ptrT Tryd.prog 55 = false := by kernel_rfl
@[push_cast] theorem lt55 : leavesT Tryd.prog 55 = none := by kernel_rfl
@[push_cast] theorem k56 : kindT Tryd.prog 56 = TK.other := by kernel_rfl
@[push_cast] theorem s56 : szT Tryd.prog 56 = 1 := by kernel_rfl
@[push_cast] theorem a56 : aggO Tryd.prog 56 = some false := by kernel_rfl
@[push_cast] theorem b56 : byT Tryd.prog 56 = 8 := by kernel_rfl
@[push_cast] theorem z56 : zeroT Tryd.prog 56 = AV.nilf := by kernel_rfl
@[push_cast] theorem zk56 : zok Tryd.prog 56 = true := by kernel_rfl
@[push_cast] theorem bt56 : boolT Tryd.prog 56 = false := by kernel_rfl
@[push_cast] theorem pt56 : ptrT Tryd.prog 56 = false := by kernel_rfl
@[push_cast] theorem lt56 : leavesT Tryd.prog 56 = none := by kernel_rfl
@[push_cast] theorem k57 : kindT Tryd.prog 57 = TK.ptr 60 := by kernel_rfl
@[push_cast] theorem s57 : szT Tryd.prog 57 = 1 := by kernel_rfl
@[push_cast] theorem a57 : aggO Tryd.prog 57 = some false := by kernel_rfl
@[push_cast] theorem b57 : byT Tryd.prog 57 = 8 := by kernel_rfl
@[push_cast] theorem z57 : zeroT Tryd.prog 57 = AV.nilp := by kernel_rfl
@[push_cast] theorem zk57 : zok Tryd.prog 57 = true := by kernel_rfl
@[push_cast] theorem bt57 : boolT Tryd.prog 57 = false := by kernel_rfl
@[push_cast] theorem pt57 : ptrT Tryd.prog 57 = true := by kernel_rfl
@[push_cast] theorem lt57 : leavesT Tryd.prog 57 = none := by kernel_rfl
@[push_cast] theorem k58 : kindT Tryd.prog 58 = TK.slice 33 := by kernel_rfl
@[push_cast] theorem s58 : szT Tryd.prog 58 = 1 := by kernel_rfl
@[push_cast] theorem a58 : aggO Tryd.prog 58 = some false := by kernel_rfl
@[push_cast] theorem b58 : byT Tryd.prog 58 = 24 := by kernel_rfl
@[push_cast] theorem z58 : zeroT Tryd.prog 58 = AV.olst 3 [] := by kernel_rfl
@[push_cast] theorem zk58 : zok Tryd.prog 58 = true := by kernel_rfl
@[push_cast] theorem bt58 : boolT Tryd.prog 58 = false := by kernel_rfl
@[push_cast] theorem pt58 : ptrT Tryd.prog 58 = false := by kernel_rfl
@[push_cast] theorem lt58 : leavesT Tryd.prog 58 = none := by kernel_rfl
@[push_cast] theorem k59 : kindT Tryd.prog 59 = TK.struct := by kernel_rfl
@[push_cast] theorem s59 : szT Tryd.prog 59 = 14 := by kernel_rfl
@[push_cast] theorem a59 : aggO Tryd.prog 59 = some true := by kernel_rfl
@[push_cast] theorem b59 : byT Tryd.prog 59 = 160 := by kernel_rfl
@[push_cast] theorem z59 : zeroT Tryd.prog 59 = AV.agg [AV.str { data := { toList := [] } }, AV.int IntKind.i64 (Int.ofNat 0), AV.int IntKind.i64 (Int.ofNat 0), AV.str { data := { toList := [] } }, AV.int IntKind.i64 (Int.ofNat 0), AV.int IntKind.i64 (Int.ofNat 0), AV.int IntKind.i64 (Int.ofNat 0), AV.int IntKind.i64 (Int.ofNat 0), AV.str { data := { toList := [] } }, AV.int IntKind.i64 (Int.ofNat 0), AV.int IntKind.i64 (Int.ofNat 0), AV.str { data := { toList := [] } }, AV.olst 3 [], AV.int IntKind.i64 (Int.ofNat 0)] := by kernel_rfl
@[push_cast] theorem zk59 : zok Tryd.prog 59 = true := by kernel_rfl
@[push_cast] theorem bt59 : boolT Tryd.prog 59 = false := by kernel_rfl
@[push_cast] theorem pt59 : ptrT Tryd.prog 59 = false := by kernel_rfl
@[push_cast] theorem lt59 : leavesT Tryd.prog 59 = none := by kernel_rfl
@[push_cast] theorem fo59 : fieldsOk Tryd.prog 59 = true := by kernel_rfl
@[push_cast] theorem o59_0 : offT Tryd.prog 59 0 = some 0 := by kernel_rfl
@[push_cast] theorem f59_0 : fszT Tryd.prog 59 0 = 12 := by kernel_rfl
@[push_cast] theorem o59_1 : offT Tryd.prog 59 1 = some 12 := by kernel_rfl
@[push_cast] theorem f59_1 : fszT Tryd.prog 59 1 = 1 := by kernel_rfl
@[push_cast] theorem o59_2 : offT Tryd.prog 59 2 = some 13 := by kernel_rfl
@[push_cast] theorem f59_2 : fszT Tryd.prog 59 2 = 1 := by kernel_rfl
@[push_cast] theorem k60 : kindT Tryd.prog 60 = TK.struct := by kernel_rfl
@[push_cast] theorem s60 : szT Tryd.prog 60 = 14 := by kernel_rfl
@[push_cast] theorem a60 : aggO Tryd.prog 60 = some true := by kernel_rfl
@[push_cast] theorem b60 : byT Tryd.prog 60 = 160 := by kernel_rfl
@[push_cast] theorem z60 : zeroT Tryd.prog 60 = AV.agg [AV.str { data := { toList := [] } }, AV.int IntKind.i64 (Int.ofNat 0), AV.int IntKind.i64 (Int.ofNat 0), AV.str { data := { toList := [] } }, AV.int IntKind.i64 (Int.ofNat 0), AV.int IntKind.i64 (Int.ofNat 0), AV.int IntKind.i64 (Int.ofNat 0), AV.int IntKind.i64 (Int.ofNat 0), AV.str { data := { toList := [] } }, AV.int IntKind.i64 (Int.ofNat 0), AV.int IntKind.i64 (Int.ofNat 0), AV.str { data := { toList := [] } }, AV.olst 3 [], AV.int IntKind.i64 (Int.ofNat 0)] := by kernel_rfl
@[push_cast] theorem zk60 : zok Tryd.prog 60 = true := by kernel_rfl
@[push_cast] theorem bt60 : boolT Tryd.prog 60 = false := by kernel_rfl
@[push_cast] theorem pt60 : ptrT Tryd.prog 60 = false := by kernel_rfl
@[push_cast] theorem lt60 : leavesT Tryd.prog 60 = none := by kernel_rfl
@[push_cast] theorem fo60 : fieldsOk Tryd.prog 60 = true := by kernel_rfl
@[push_cast] theorem o60_0 : offT Tryd.prog 60 0 = some 0 := by kernel_rfl
@[push_cast] theorem f60_0 : fszT Tryd.prog 60 0 = 12 := by kernel_rfl
@[push_cast] theorem o60_1 : offT Tryd.prog 60 1 = some 12 := by kernel_rfl
@[push_cast] theorem f60_1 : fszT Tryd.prog 60 1 = 1 := by kernel_rfl
@[push_cast] theorem o60_2 : offT Tryd.prog 60 2 = some 13 := by kernel_rfl
@[push_cast] theorem f60_2 : fszT Tryd.prog 60 2 = 1 := by kernel_rfl
@[push_cast] theorem k61 : kindT Tryd.prog 61 = TK.other := by kernel_rfl
@[push_cast] theorem s61 : szT Tryd.prog 61 = 1 := by kernel_rfl
@[push_cast] theorem a61 : aggO Tryd.prog 61 = some false := by kernel_rfl
@[push_cast] theorem b61 : byT Tryd.prog 61 = 8 := by kernel_rfl
@[push_cast] theorem z61 : zeroT Tryd.prog 61 = AV.nilf := by kernel_rfl
@[push_cast] theorem zk61 : zok Tryd.prog 61 = true := by kernel_rfl
@[push_cast] theorem bt61 : boolT Tryd.prog 61 = false := by kernel_rfl
@[push_cast] theorem pt61 : ptrT Tryd.prog 61 = false := by kernel_rfl
@[push_cast] theorem lt61 : leavesT Tryd.prog 61 = none := by kernel_rfl
@[push_cast] theorem k62 : kindT Tryd.prog 62 = TK.other := by kernel_rfl
@[push_cast] theorem s62 : szT Tryd.prog 62 = 1 := by kernel_rfl
@[push_cast] theorem a62 : aggO Tryd.prog 62 = some false := by kernel_rfl
@[push_cast] theorem b62 : byT Tryd.prog 62 = 8 := by kernel_rfl
@[push_cast] theorem z62 : zeroT Tryd.prog 62 = AV.nilf := by kernel_rfl
@[push_cast] theorem zk62 : zok Tryd.prog 62 = true := by kernel_rfl
@[push_cast] theorem bt62 : boolT Tryd.prog 62 = false := by kernel_rfl
@[push_cast] theorem pt62 : ptrT Tryd.prog 62 = false := by kernel_rfl
@[push_cast] theorem lt62 : leavesT Tryd.prog 62 = none := by kernel_rfl
@[push_cast] theorem k63 : kindT Tryd.prog 63 = TK.slice 36 := by kernel_rfl
@[push_cast] theorem s63 : szT Tryd.prog 63 = 1 := by kernel_rfl
@[push_cast] theorem a63 : aggO Tryd.prog 63 = some false := by kernel_rfl
@[push_cast] theorem b63 : byT Tryd.prog 63 = 24 := by kernel_rfl
@[push_cast] theorem z63 : zeroT Tryd.prog 63 = AV.olst 1 [] := by kernel_rfl
@[push_cast] theorem zk63 : zok Tryd.prog 63 = true := by kernel_rfl
@[push_cast] theorem bt63 : boolT Tryd.prog 63 = false := by kernel_rfl
@[push_cast] theorem pt63 : ptrT Tryd.prog 63 = false := by kernel_rfl
@[push_cast] theorem lt63 : leavesT Tryd.prog 63 = none := by kernel_rfl
@[push_cast] theorem k64 : kindT Tryd.prog 64 = TK.other := by kernel_rfl
@[push_cast] theorem s64 : szT Tryd.prog 64 = 1 := by kernel_rfl
@[push_cast] theorem a64 : aggO Tryd.prog 64 = some false := by kernel_rfl
@[push_cast] theorem b64 : byT Tryd.prog 64 = 8 := by kernel_rfl
@[push_cast] theorem z64 : zeroT Tryd.prog 64 = AV.nilf := by kernel_rfl
@[push_cast] theorem zk64 : zok Tryd.prog 64 = true := by kernel_rfl
@[push_cast] theorem bt64 : boolT Tryd.prog 64 = false := by kernel_rfl
@[push_cast] theorem pt64 : ptrT Tryd.prog 64 = false := by kernel_rfl
@[push_cast] theorem lt64 : leavesT Tryd.prog 64 = none := by kernel_rfl
@[push_cast] theorem k65 : kindT Tryd.prog 65 = TK.other := by kernel_rfl
@[push_cast] theorem s65 : szT Tryd.prog 65 = 1 := by kernel_rfl
@[push_cast] theorem a65 : aggO Tryd.prog 65 = some false := by kernel_rfl
@[push_cast] theorem b65 : byT Tryd.prog 65 = 0 := by kernel_rfl
@[push_cast] theorem z65 : zeroT Tryd.prog 65 = AV.undef := by kernel_rfl
@[push_cast] theorem zk65 : zok Tryd.prog 65 = true := by kernel_rfl
@[push_cast] theorem bt65 : boolT Tryd.prog 65 = false := by kernel_rfl
@[push_cast] theorem pt65 : ptrT Tryd.prog 65 = false := by kernel_rfl
@[push_cast] theorem lt65 : leavesT Tryd.prog 65 = none := by kernel_rfl
@[push_cast] theorem k66 : kindT Tryd.prog 66 = TK.other := by kernel_rfl
@[push_cast] theorem s66 : szT Tryd.prog 66 = 1 := by kernel_rfl
@[push_cast] theorem a66 : aggO Tryd.prog 66 = some false := by kernel_rfl
@[push_cast] theorem b66 : byT Tryd.prog 66 = 8 := by kernel_rfl
@[push_cast] theorem z66 : zeroT Tryd.prog 66 = AV.nilf := by kernel_rfl
@[push_cast] theorem zk66 : zok Tryd.prog 66 = true := by kernel_rfl
@[push_cast] theorem bt66 : boolT Tryd.prog 66 = false := by kernel_rfl
@[push_cast] theorem pt66 : ptrT Tryd.prog 66 = false := by kernel_rfl
@[push_cast] theorem lt66 : leavesT Tryd.prog 66 = none := by kernel_rfl
@[push_cast] theorem k67 : kindT Tryd.prog 67 = TK.other := by kernel_rfl
@[push_cast] theorem s67 : szT Tryd.prog 67 = 1 := by kernel_rfl
@[push_cast] theorem a67 : aggO Tryd.prog 67 = some false := by kernel_rfl
@[push_cast] theorem b67 : byT Tryd.prog 67 = 0 := by kernel_rfl
@[push_cast] theorem z67 : zeroT Tryd.prog 67 = AV.undef := by kernel_rfl
@[push_cast] theorem zk67 : zok Tryd.prog 67 = true := by kernel_rfl
@[push_cast] theorem bt67 : boolT Tryd.prog 67 = false := by kernel_rfl
@[push_cast] theorem pt67 : ptrT Tryd.prog 67 = false := by kernel_rfl
@[push_cast] theorem lt67 : leavesT Tryd.prog 67 = none := by kernel_rfl
@[push_cast] theorem k68 : kindT Tryd.prog 68 = TK.other := by kernel_rfl
@[push_cast] theorem s68 : szT Tryd.prog 68 = 1 := by kernel_rfl
@[push_cast] theorem a68 : aggO Tryd.prog 68 = some false := by kernel_rfl
@[push_cast] theorem b68 : byT Tryd.prog 68 = 8 := by kernel_rfl
@[push_cast] theorem z68 : zeroT Tryd.prog 68 = AV.nilf := by kernel_rfl
@[push_cast] theorem zk68 : zok Tryd.prog 68 = true := by kernel_rfl
@[push_cast] theorem bt68 : boolT Tryd.prog 68 = false := by kernel_rfl
@[push_cast] theorem pt68 : ptrT Tryd.prog 68 = false := by kernel_rfl
@[push_cast] theorem lt68 : leavesT Tryd.prog 68 = none := by kernel_rfl
@[push_cast] theorem k69 : kindT Tryd.prog 69 = TK.other := by kernel_rfl
@[push_cast] theorem s69 : szT Tryd.prog 69 = 1 := by kernel_rfl
@[push_cast] theorem a69 : aggO Tryd.prog 69 = some false := by kernel_rfl
@[push_cast] theorem b69 : byT Tryd.prog 69 = 8 := by kernel_rfl
@[push_cast] theorem z69 : zeroT Tryd.prog 69 = AV.nilf := by kernel_rfl
@[push_cast] theorem zk69 : zok Tryd.prog 69 = true := by kernel_rfl
@[push_cast] theorem bt69 : boolT Tryd.prog 69 = false := by kernel_rfl
@[push_cast] theorem pt69 : ptrT Tryd.prog 69 = false := by kernel_rfl
@[push_cast] theorem lt69 : leavesT Tryd.prog 69 = none := by kernel_rfl
@[push_cast] theorem k70 : kindT Tryd.prog 70 = TK.other := by kernel_rfl
@[push_cast] theorem s70 : szT Tryd.prog 70 = 1 := by kernel_rfl
@[push_cast] theorem a70 : aggO Tryd.prog 70 = some false := by kernel_rfl
@[push_cast] theorem b70 : byT Tryd.prog 70 = 8 := by kernel_rfl
@[push_cast] theorem z70 : zeroT Tryd.prog 70 = AV.nilf := by kernel_rfl
@[push_cast] theorem zk70 : zok Tryd.prog 70 = true := by kernel_rfl
@[push_cast] theorem bt70 : boolT Tryd.prog 70 = false := by kernel_rfl
@[push_cast] theorem pt70 : ptrT Tryd.prog 70 = false := by kernel_rfl
@[push_cast] theorem lt70 : leavesT Tryd.prog 70 = none := by kernel_rfl
@[push_cast] theorem k71 : kindT Tryd.prog 71 = TK.other := by kernel_rfl
@[push_cast] theorem s71 : szT Tryd.prog 71 = 1 := by kernel_rfl
@[push_cast] theorem a71 : aggO Tryd.prog 71 = some false := by kernel_rfl
@[push_cast] theorem b71 : byT Tryd.prog 71 = 8 := by kernel_rfl
@[push_cast] theorem z71 : zeroT Tryd.prog 71 = AV.nilf := by kernel_rfl
@[push_cast] theorem zk71 : zok Tryd.prog 71 = true := by kernel_rfl
@[push_cast] theorem bt71 : boolT Tryd.prog 71 = false := by kernel_rfl
@[push_cast] theorem pt71 : ptrT Tryd.prog 71 = false := by kernel_rfl
@[push_cast] theorem lt71 : leavesT Tryd.prog 71 = none := by kernel_rfl
@[push_cast] theorem k72 : kindT Tryd.prog 72 = TK.other := by kernel_rfl
@[push_cast] theorem s72 : szT Tryd.prog 72 = 1 := by kernel_rfl
@[push_cast] theorem a72 : aggO Tryd.prog 72 = some false := by kernel_rfl
@[push_cast] theorem b72 : byT Tryd.prog 72 = 0 := by kernel_rfl
@[push_cast] theorem z72 : zeroT Tryd.prog 72 = AV.undef := by kernel_rfl
@[push_cast] theorem zk72 : zok Tryd.prog 72 = true := by kernel_rfl
@[push_cast] theorem bt72 : boolT Tryd.prog 72 = false := by kernel_rfl
@[push_cast] theorem pt72 : ptrT Tryd.prog 72 = false := by kernel_rfl
@[push_cast] theorem lt72 : leavesT Tryd.prog 72 = none := by kernel_rfl
@[push_cast] theorem k73 : kindT Tryd.prog 73 = TK.other := by kernel_rfl
@[push_cast] theorem s73 : szT Tryd.prog 73 = 1 := by kernel_rfl
@[push_cast] theorem a73 : aggO Tryd.prog 73 = some false := by kernel_rfl
@[push_cast] theorem b73 : byT Tryd.prog 73 = 8 := by kernel_rfl
@[push_cast] theorem z73 : zeroT Tryd.prog 73 = AV.nilf := by kernel_rfl
@[push_cast] theorem zk73 : zok Tryd.prog 73 = true := by kernel_rfl
@[push_cast] theorem bt73 : boolT Tryd.prog 73 = false := by kernel_rfl
@[push_cast] theorem pt73 : ptrT Tryd.prog 73 = false := by kernel_rfl
@[push_cast] theorem lt73 : leavesT Tryd.prog 73 = none := by kernel_rfl
@[push_cast] theorem k74 : kindT Tryd.prog 74 = TK.other := by kernel_rfl
@[push_cast] theorem s74 : szT Tryd.prog 74 = 1 := by kernel_rfl
@[push_cast] theorem a74 : aggO Tryd.prog 74 = some false := by kernel_rfl
@[push_cast] theorem b74 : byT Tryd.prog 74 = 8 := by kernel_rfl
@[push_cast] theorem z74 : zeroT Tryd.prog 74 = AV.nilf := by kernel_rfl
@[push_cast] theorem zk74 : zok Tryd.prog 74 = true := by kernel_rfl
@[push_cast] theorem bt74 : boolT Tryd.prog 74 = false := by kernel_rfl
@[push_cast] theorem pt74 : ptrT Tryd.prog 74 = false := by kernel_rfl
@[push_cast] theorem lt74 : leavesT Tryd.prog 74 = none := by kernel_rfl
@[push_cast] theorem k75 : kindT Tryd.prog 75 = TK.slice 5 := by kernel_rfl
@[push_cast] theorem s75 : szT Tryd.prog 75 = 1 := by kernel_rfl
@[push_cast] theorem a75 : aggO Tryd.prog 75 = some false := by kernel_rfl
@[push_cast] theorem b75 : byT Tryd.prog 75 = 24 := by kernel_rfl
@[push_cast] theorem z75 : zeroT Tryd.prog 75 = AV.olst 1 [] := by kernel_rfl
@[push_cast] theorem zk75 : zok Tryd.prog 75 = true := by kernel_rfl
@[push_cast] theorem bt75 : boolT Tryd.prog 75 = false := by kernel_rfl
@[push_cast] theorem pt75 : ptrT Tryd.prog 75 = false := by kernel_rfl
@[push_cast] theorem lt75 : leavesT Tryd.prog 75 = none := by kernel_rfl
@[push_cast] theorem k76 : kindT Tryd.prog 76 = TK.other := by kernel_rfl
@[push_cast] theorem s76 : szT Tryd.prog 76 = 1 := by kernel_rfl
@[push_cast] theorem a76 : aggO Tryd.prog 76 = some false := by kernel_rfl
@[push_cast] theorem b76 : byT Tryd.prog 76 = 0 := by kernel_rfl
@[push_cast] theorem z76 : zeroT Tryd.prog 76 = AV.undef := by kernel_rfl
@[push_cast] theorem zk76 : zok Tryd.prog 76 = true := by kernel_rfl
@[push_cast] theorem bt76 : boolT Tryd.prog 76 = false := by kernel_rfl
@[push_cast] theorem pt76 : ptrT Tryd.prog 76 = false := by kernel_rfl
@[push_cast] theorem lt76 : leavesT Tryd.prog 76 = none := by kernel_rfl
@[push_cast] theorem k77 : kindT Tryd.prog 77 = TK.other := by kernel_rfl
@[push_cast] theorem s77 : szT Tryd.prog 77 = 1 := by kernel_rfl
@[push_cast] theorem a77 : aggO Tryd.prog 77 = some false := by kernel_rfl
@[push_cast] theorem b77 : byT Tryd.prog 77 = 8 := by kernel_rfl
@[push_cast] theorem z77 : zeroT Tryd.prog 77 = AV.nilf := by kernel_rfl
@[push_cast] theorem zk77 : zok Tryd.prog 77 = true := by kernel_rfl
@[push_cast] theorem bt77 : boolT Tryd.prog 77 = false := by kernel_rfl
@[push_cast] theorem pt77 : ptrT Tryd.prog 77 = false := by kernel_rfl
@[push_cast] theorem lt77 : leavesT Tryd.prog 77 = none := by kernel_rfl
@[push_cast] theorem k78 : kindT Tryd.prog 78 = TK.other := by kernel_rfl
@[push_cast] theorem s78 : szT Tryd.prog 78 = 1 := by kernel_rfl
@[push_cast] theorem a78 : aggO Tryd.prog 78 = some false := by kernel_rfl
@[push_cast] theorem b78 : byT Tryd.prog 78 = 0 := by kernel_rfl
@[push_cast] theorem z78 : zeroT Tryd.prog 78 = AV.undef := by kernel_rfl
@[push_cast] theorem zk78 : zok Tryd.prog 78 = true := by kernel_rfl
@[push_cast] theorem bt78 : boolT Tryd.prog 78 = false := by kernel_rfl
@[push_cast] theorem pt78 : ptrT Tryd.prog 78 = false := by kernel_rfl
@[push_cast] theorem lt78 : leavesT Tryd.prog 78 = none := by kernel_rfl
@[push_cast] theorem k79 : kindT Tryd.prog 79 = TK.other := by kernel_rfl
@[push_cast] theorem s79 : szT Tryd.prog 79 = 1 := by kernel_rfl
@[push_cast] theorem a79 : aggO Tryd.prog 79 = some false := by kernel_rfl
@[push_cast] theorem b79 : byT Tryd.prog 79 = 8 := by kernel_rfl
@[push_cast] theorem z79 : zeroT Tryd.prog 79 = AV.nilf := by kernel_rfl
@[push_cast] theorem zk79 : zok Tryd.prog 79 = true := by kernel_rfl
@[push_cast] theorem bt79 : boolT Tryd.prog 79 = false := by kernel_rfl
@[push_cast] theorem pt79 : ptrT Tryd.prog 79 = false := by kernel_rfl
@[push_cast] theorem lt79 : leavesT Tryd.prog 79 = none := by kernel_rfl
@[push_cast] theorem k80 : kindT Tryd.prog 80 = TK.other := by kernel_rfl
@[push_cast] theorem s80 : szT Tryd.prog 80 = 1 := by kernel_rfl
@[push_cast] theorem a80 : aggO Tryd.prog 80 = some false := by kernel_rfl
@[push_cast] theorem b80 : byT Tryd.prog 80 = 0 := by kernel_rfl
@[push_cast] theorem z80 : zeroT Tryd.prog 80 = AV.undef := by kernel_rfl
@[push_cast] theorem zk80 : zok Tryd.prog 80 = true := by kernel_rfl
@[push_cast] theorem bt80 : boolT Tryd.prog 80 = false := by kernel_rfl
@[push_cast] theorem pt80 : ptrT Tryd.prog 80 = false := by kernel_rfl
@[push_cast] theorem lt80 : leavesT Tryd.prog 80 = none := by kernel_rfl
@[push_cast] theorem k81 : kindT Tryd.prog 81 = TK.other := by kernel_rfl
@[push_cast] theorem s81 : szT Tryd.prog 81 = 1 := by kernel_rfl
@[push_cast] theorem a81 : aggO Tryd.prog 81 = some false := by kernel_rfl
@[push_cast] theorem b81 : byT Tryd.prog 81 = 8 := by kernel_rfl
@[push_cast] theorem z81 : zeroT Tryd.prog 81 = AV.nilf := by kernel_rfl
@[push_cast] theorem zk81 : zok Tryd.prog 81 = true := by kernel_rfl
@[push_cast] theorem bt81 : boolT Tryd.prog 81 = false := by kernel_rfl
@[push_cast] theorem pt81 : ptrT Tryd.prog 81 = false := by kernel_rfl
@[push_cast] theorem lt81 : leavesT Tryd.prog 81 = none := by kernel_rfl
@[push_cast] theorem k82 : kindT Tryd.prog 82 = TK.other := by kernel_rfl
@[push_cast] theorem s82 : szT Tryd.prog 82 = 1 := by kernel_rfl
@[push_cast] theorem a82 : aggO Tryd.prog 82 = some false := by kernel_rfl
@[push_cast] theorem b82 : byT Tryd.prog 82 = 8 := by kernel_rfl
@[push_cast] theorem z82 : zeroT Tryd.prog 82 = AV.nilf := by kernel_rfl
@[push_cast] theorem zk82 : zok Tryd.prog 82 = true := by kernel_rfl
@[push_cast] theorem bt82 : boolT Tryd.prog 82 = false := by kernel_rfl
@[push_cast] theorem pt82 : ptrT Tryd.prog 82 = false := by kernel_rfl
@[push_cast] theorem lt82 : leavesT Tryd.prog 82 = none := by kernel_rfl
@[push_cast] theorem k83 : kindT Tryd.prog 83 = TK.ptr 85 := by kernel_rfl
@[push_cast] theorem s83 : szT Tryd.prog 83 = 1 := by kernel_rfl
@[push_cast] theorem a83 : aggO Tryd.prog 83 = some false := by kernel_rfl
@[push_cast] theorem b83 : byT Tryd.prog 83 = 8 := by kernel_rfl
@[push_cast] theorem z83 : zeroT Tryd.prog 83 = AV.nilp := by kernel_rfl
@[push_cast] theorem zk83 : zok Tryd.prog 83 = true := by kernel_rfl
@[push_cast] theorem bt83 : boolT Tryd.prog 83 = false := by kernel_rfl
@[push_cast] theorem pt83 : ptrT Tryd.prog 83 = true := by kernel_rfl
@[push_cast] theorem lt83 : leavesT Tryd.prog 83 = none := by kernel_rfl
@[push_cast] theorem k84 : kindT Tryd.prog 84 = TK.struct := by kernel_rfl
@[push_cast] theorem s84 : szT Tryd.prog 84 = 2 := by kernel_rfl
@[push_cast] theorem a84 : aggO Tryd.prog 84 = some true := by kernel_rfl
@[push_cast] theorem b84 : byT Tryd.prog 84 = 32 := by kernel_rfl
@[push_cast] theorem z84 : zeroT Tryd.prog 84 = AV.agg [AV.nilp, AV.olst 1 []] := by kernel_rfl
@[push_cast] theorem zk84 : zok Tryd.prog 84 = true := by kernel_rfl
@[push_cast] theorem bt84 : boolT Tryd.prog 84 = false := by kernel_rfl
@[push_cast] theorem pt84 : ptrT Tryd.prog 84 = false := by kernel_rfl
@[push_cast] theorem lt84 : leavesT Tryd.prog 84 = none := by kernel_rfl
@[push_cast] theorem fo84 : fieldsOk Tryd.prog 84 = true := by kernel_rfl
@[push_cast] theorem o84_0 : offT Tryd.prog 84 0 = some 0 := by kernel_rfl
@[push_cast] theorem f84_0 : fszT Tryd.prog 84 0 = 1 := by kernel_rfl
@[push_cast] theorem o84_1 : offT Tryd.prog 84 1 = some 1 := by kernel_rfl
@[push_cast] theorem f84_1 : fszT Tryd.prog 84 1 = 1 := by kernel_rfl
@[push_cast] theorem k85 : kindT Tryd.prog 85 = TK.struct := by kernel_rfl
@[push_cast] theorem s85 : szT Tryd.prog 85 = 2 := by kernel_rfl
@[push_cast] theorem a85 : aggO Tryd.prog 85 = some true := by kernel_rfl
@[push_cast] theorem b85 : byT Tryd.prog 85 = 32 := by kernel_rfl
@[push_cast] theorem z85 : zeroT Tryd.prog 85 = AV.agg [AV.nilp, AV.olst 1 []] := by kernel_rfl
@[push_cast] theorem zk85 : zok Tryd.prog 85 = true := by kernel_rfl
@[push_cast] theorem bt85 : boolT Tryd.prog 85 = false := by kernel_rfl
@[push_cast] theorem pt85 : ptrT Tryd.prog 85 = false := by kernel_rfl
@[push_cast] theorem lt85 : leavesT Tryd.prog 85 = none := by kernel_rfl
@[push_cast] theorem fo85 : fieldsOk Tryd.prog 85 = true := by kernel_rfl
@[push_cast] theorem o85_0 : offT Tryd.prog 85 0 = some 0 := by kernel_rfl
@[push_cast] theorem f85_0 : fszT Tryd.prog 85 0 = 1 := by kernel_rfl
@[push_cast] theorem o85_1 : offT Tryd.prog 85 1 = some 1 := by kernel_rfl
@[push_cast] theorem f85_1 : fszT Tryd.prog 85 1 = 1 := by kernel_rfl
@[push_cast] theorem k86 : kindT Tryd.prog 86 = TK.other := by kernel_rfl
@[push_cast] theorem s86 : szT Tryd.prog 86 = 1 := by kernel_rfl
@[push_cast] theorem a86 : aggO Tryd.prog 86 = some false := by kernel_rfl
@[push_cast] theorem b86 : byT Tryd.prog 86 = 8 := by kernel_rfl
@[push_cast] theorem z86 : zeroT Tryd.prog 86 = AV.nilf := by kernel_rfl
@[push_cast] theorem zk86 : zok Tryd.prog 86 = true := by kernel_rfl
@[push_cast] theorem bt86 : boolT Tryd.prog 86 = false := by kernel_rfl
@[push_cast] theorem pt86 : ptrT Tryd.prog 86 = false := by kernel_rfl
@[push_cast] theorem lt86 : leavesT Tryd.prog 86 = none := by kernel_rfl
@[push_cast] theorem k87 : kindT Tryd.prog 87 = TK.other := by kernel_rfl
@[push_cast] theorem s87 : szT Tryd.prog 87 = 1 := by kernel_rfl
@[push_cast] theorem a87 : aggO Tryd.prog 87 = some false := by kernel_rfl
@[push_cast] theorem b87 : byT Tryd.prog 87 = 16 := by kernel_rfl
@[push_cast] theorem z87 : zeroT Tryd.prog 87 = AV.nili := by kernel_rfl
@[push_cast] theorem zk87 : zok Tryd.prog 87 = true := by kernel_rfl
@[push_cast] theorem bt87 : boolT Tryd.prog 87 = false := by kernel_rfl
@[push_cast] theorem pt87 : ptrT Tryd.prog 87 = false := by kernel_rfl
@[push_cast] theorem lt87 : leavesT Tryd.prog 87 = none := by kernel_rfl
@[push_cast] theorem k88 : kindT Tryd.prog 88 = TK.other := by kernel_rfl
@[push_cast] theorem s88 : szT Tryd.prog 88 = 1 := by kernel_rfl
@[push_cast] theorem a88 : aggO Tryd.prog 88 = some false := by kernel_rfl
@[push_cast] theorem b88 : byT Tryd.prog 88 = 16 := by kernel_rfl
@[push_cast] theorem z88 : zeroT Tryd.prog 88 = AV.nili := by kernel_rfl
@[push_cast] theorem zk88 : zok Tryd.prog 88 = true := by kernel_rfl
@[push_cast] theorem bt88 : boolT Tryd.prog 88 = false := by kernel_rfl
@[push_cast] theorem pt88 : ptrT Tryd.prog 88 = false := by kernel_rfl
@[push_cast] theorem lt88 : leavesT Tryd.prog 88 = none := by kernel_rfl
@[push_cast] theorem k89 : kindT Tryd.prog 89 = TK.other := by kernel_rfl
@[push_cast] theorem s89 : szT Tryd.prog 89 = 1 := by kernel_rfl
@[push_cast] theorem a89 : aggO Tryd.prog 89 = some false := by kernel_rfl
@[push_cast] theorem b89 : byT Tryd.prog 89 = 0 := by kernel_rfl
@[push_cast] theorem z89 : zeroT Tryd.prog 89 = AV.undef := by kernel_rfl
@[push_cast] theorem zk89 : zok Tryd.prog 89 = true := by kernel_rfl
@[push_cast] theorem bt89 : boolT Tryd.prog 89 = false := by kernel_rfl
@[push_cast] theorem pt89 : ptrT Tryd.prog 89 = false := by kernel_rfl
@[push_cast] theorem lt89 : leavesT Tryd.prog 89 = none := by kernel_rfl
end Go.Ev

set_option linter.unusedVariables false
set_option linter.unusedSimpArgs false
namespace Go.Ev
set_option maxRecDepth 100000
set_option maxHeartbeats 0
open Go.Proofs
structure ValA where
  kind : Int
  n : Int
  s : List UInt8
deriving DecidableEq
def encV (r : ValA) : AV := .agg [.int .i64 r.kind, .int .i64 r.n, .str (ofL r.s)]
theorem encV_cells {r : ValA} : cellsOf (encV r) = [.int .i64 r.kind, .int .i64 r.n, .str (ofL r.s)] := rfl
theorem encV_low {r : ValA} : low (encV r) = encV r := by simp [encV, low, lowL]
theorem encV_bd {r : ValA} {n : Nat} : Bd n (encV r) = True := by simp [encV, Bd, BdL]
theorem encV_noO {r : ValA} : NoO (encV r) = True := by simp [encV, NoO, NoOL]
theorem encV_noF {r : ValA} : NoF (encV r) = True := by simp [encV, NoF, NoFL]
theorem encV_okE {r : ValA} : okE 3 (encV r) = True := by simp [encV, okE, cellsOf, allC1, C1]
attribute [push_cast] encV_cells encV_low encV_bd encV_noO encV_noF encV_okE
structure OpA where
  code : Int
  n : Int
  s : List UInt8
deriving DecidableEq
def encP (r : OpA) : AV := .agg [.int .i64 r.code, .int .i64 r.n, .str (ofL r.s)]
theorem encP_cells {r : OpA} : cellsOf (encP r) = [.int .i64 r.code, .int .i64 r.n, .str (ofL r.s)] := rfl
theorem encP_low {r : OpA} : low (encP r) = encP r := by simp [encP, low, lowL]
theorem encP_bd {r : OpA} {n : Nat} : Bd n (encP r) = True := by simp [encP, Bd, BdL]
theorem encP_noO {r : OpA} : NoO (encP r) = True := by simp [encP, NoO, NoOL]
theorem encP_noF {r : OpA} : NoF (encP r) = True := by simp [encP, NoF, NoFL]
theorem encP_okE {r : OpA} : okE 3 (encP r) = True := by simp [encP, okE, cellsOf, allC1, C1]
attribute [push_cast] encP_cells encP_low encP_bd encP_noO encP_noF encP_okE
/-- What an operation takes. -/
def takesL (c : Int) : List UInt8 :=
  if 10 ≤ c ∧ c ≤ 16 ∨ c = 20 ∨ c = 21 then [110, 110] else if c = 17 ∨ c = 22 ∨ c = 37 then [110] else if c = 18 ∨ c = 30 ∨ c = 34 then [97, 97] else if c = 19 then [99, 99] else if c = 23 ∨ c = 26 then [116, 116]
  else if c = 24 then [116] else if c = 25 then [116, 110, 110] else if c = 29 then [116, 110] else if c = 27 ∨ c = 28 ∨ c = 31 ∨ c = 33 ∨ c = 35 then [97] else if c = 32 then [97, 97, 110] else []
theorem takes_spec (c : Int) : Spec Tryd.prog 31 [.int .i64 c] (.str (ofL (takesL c))) [.int .i64 c] := by
  refine spec_go Tryd.f31 ?_; simp (maxSteps := 1000000) (disch := omega) only [push_cast, go_sem, simprocAttr, Tryd.f31, *]
  repeat' (first
    | with_reducible refine And.intro ?_ ?_
    | ((first | (with_reducible intro hx; (try simp only [false_dec, true_dec, Int.ofNat_inj, gt_iff_lt, ge_iff_le, decide_eq_true_eq, decide_eq_false_iff_not, Bool.not_eq_true', Bool.not_eq_false', Bool.and_eq_true, Bool.or_eq_false_iff, ne_eq, Classical.not_not] at hx); (first | (exfalso; omega) | skip)) | with_reducible refine branch_t ?_ | with_reducible refine branch_f ?_) <;> (try simp (maxSteps := 1000000) (disch := omega) only [push_cast, go_sem, simprocAttr, *]))
    | with_reducible refine cond_split ?_ ?_
    | with_reducible refine guard_split ?_ ?_
    | with_reducible refine still_split ?_ ?_
    | ((with_reducible refine drw_own ?_); simp (maxSteps := 1000000) (disch := omega) only [push_cast, go_sem, simprocAttr, *]; (with_reducible refine drw_id ?_))
    | ((first | with_reducible refine drw_in ?_) <;> (try simp (maxSteps := 1000000) (disch := omega) only [push_cast, go_sem, simprocAttr, *]))
    | omega)
  all_goals first | rfl | (have : takesL c = [] := by unfold takesL; repeat' rw [if_neg (by omega)]
                           rw [this])
/-- May an operation be, in a program of so many? -/
def okOp (len : Int) (o : OpA) : Bool := decide (1 ≤ o.code ∧ o.code ≤ 37) && decide (36 ≤ o.code → 0 ≤ o.n ∧ o.n ≤ len) && decide (o.code < 36 → o.code ≠ 1 → o.n = 0) && decide (o.code ≠ 2 → o.s = []) && decide (o.s.length ≤ 1024)
def checkL (p : List OpA) : Int := if 1 ≤ p.length ∧ p.length ≤ 64 ∧ p.all (okOp p.length) = true then 0 else 40
theorem okOp_iff {len : Int} {o : OpA} : okOp len o = true ↔ 1 ≤ o.code ∧ o.code ≤ 37 ∧ (36 ≤ o.code → 0 ≤ o.n ∧ o.n ≤ len) ∧ (o.code < 36 → o.code ≠ 1 → o.n = 0) ∧ (o.code ≠ 2 → o.s.length = 0) ∧ o.s.length ≤ 1024 := by
  simp only [okOp, Bool.and_eq_true, decide_eq_true_eq, and_assoc, List.length_eq_zero_iff]
theorem check_spec (f : Bool) (p : List OpA) : Spec Tryd.prog 21 [.lst f 3 (p.map encP)] (.int .i64 (checkL p)) [.lst f 3 (p.map encP)] := by
  refine spec_go Tryd.f21 ?_; simp (maxSteps := 1000000) (disch := omega) only [push_cast, go_sem, simprocAttr, Tryd.f21, *]
  repeat' (first
    | with_reducible refine And.intro ?_ ?_
    | ((first | (with_reducible intro hx; (try simp only [false_dec, true_dec, Int.ofNat_inj, gt_iff_lt, ge_iff_le, decide_eq_true_eq, decide_eq_false_iff_not, Bool.not_eq_true', Bool.not_eq_false', Bool.and_eq_true, Bool.or_eq_false_iff, ne_eq, Classical.not_not] at hx); (first | (exfalso; omega) | skip)) | with_reducible refine branch_t ?_ | with_reducible refine branch_f ?_) <;> (try simp (maxSteps := 1000000) (disch := omega) only [push_cast, go_sem, simprocAttr, *]))
    | with_reducible refine cond_split ?_ ?_
    | with_reducible refine guard_split ?_ ?_
    | with_reducible refine still_split ?_ ?_
    | ((with_reducible refine drw_own ?_); simp (maxSteps := 1000000) (disch := omega) only [push_cast, go_sem, simprocAttr, *]; (with_reducible refine drw_id ?_))
    | ((first | with_reducible refine drw_in ?_) <;> (try simp (maxSteps := 1000000) (disch := omega) only [push_cast, go_sem, simprocAttr, *]))
    | omega)
  · rw [checkL, if_neg (by omega)]
  · refine loop_go (σ := Nat) (fun i N => ([(16, .int .i64 i), (15, .int .i64 p.length), (14, .lst f 3 (p.map encP)), (0, .lst f 3 (p.map encP))], [])) (fun i => i ≤ p.length ∧ (p.take i).all (okOp p.length) = true) (fun i => p.length - i) 0 ⟨by omega, by simp⟩ ?_
    rintro i N hN ⟨hi, hinv⟩
    have bad : ∀ h : i < p.length, ¬ okOp p.length p[i] = true → checkL p = 40 := fun h hb => by
      have : ¬ p.all (okOp p.length) = true := fun h' => hb (List.all_eq_true.1 h' _ (List.getElem_mem h))
      rw [checkL, if_neg (by simp [this])]
    have good : ∀ h : i < p.length, okOp p.length p[i] = true → (p.take (i + 1)).all (okOp p.length) = true := fun h hb => by rw [all_take_succ h, hinv, hb]; rfl
    have fin : ¬ i < p.length → checkL p = 0 := fun h => by
      rw [List.take_of_length_le (by omega)] at hinv
      rw [checkL, if_pos ⟨by omega, by omega, hinv⟩]
    clear hinv
    simp only [okOp_iff] at bad good
    simp (maxSteps := 1000000) (disch := omega) only [push_cast, go_sem, simprocAttr, *]
    repeat' (first
    | with_reducible refine And.intro ?_ ?_
    | ((first | (with_reducible intro hx; (try simp only [false_dec, true_dec, Int.ofNat_inj, gt_iff_lt, ge_iff_le, decide_eq_true_eq, decide_eq_false_iff_not, Bool.not_eq_true', Bool.not_eq_false', Bool.and_eq_true, Bool.or_eq_false_iff, ne_eq, Classical.not_not] at hx); (first | (exfalso; omega) | skip)) | with_reducible refine branch_t ?_ | with_reducible refine branch_f ?_) <;> (try simp (maxSteps := 1000000) (disch := omega) only [push_cast, go_sem, simprocAttr, *]))
    | with_reducible refine cond_split ?_ ?_
    | with_reducible refine guard_split ?_ ?_
    | with_reducible refine still_split ?_ ?_
    | ((with_reducible refine drw_own ?_); simp (maxSteps := 1000000) (disch := omega) only [push_cast, go_sem, simprocAttr, *]; (with_reducible refine drw_id ?_))
    | ((first | with_reducible refine drw_in ?_) <;> (try simp (maxSteps := 1000000) (disch := omega) only [push_cast, go_sem, simprocAttr, *]))
    | omega)
    all_goals try simp only [← List.length_eq_zero_iff] at *
    all_goals first
      | (rw [bad (by omega) (by omega)])
      | (refine loop_on (i + 1) ⟨by omega, good (by omega) (by omega)⟩)
      | (rw [fin (by omega)])
  · rw [checkL, if_neg (by omega)]
def mayL (v : ValA) : Bool := decide (v.kind = 0 ∧ v.n = 0 ∧ v.s = []) || decide (v.kind = 1 ∧ v.s = []) || decide (v.kind = 2 ∧ v.n = 0 ∧ v.s.length ≤ 1024)
theorem may_spec (v : ValA) : Spec Tryd.prog 22 [.agg [.int .i64 v.kind, .int .i64 v.n, .str (ofL v.s)]] (.bool (mayL v)) [.agg [.int .i64 v.kind, .int .i64 v.n, .str (ofL v.s)]] := by
  refine spec_go Tryd.f22 ?_; simp (maxSteps := 1000000) (disch := omega) only [push_cast, go_sem, simprocAttr, Tryd.f22, *]
  repeat' (first
    | with_reducible refine And.intro ?_ ?_
    | ((first | (with_reducible intro hx; (try simp only [false_dec, true_dec, Int.ofNat_inj, gt_iff_lt, ge_iff_le, decide_eq_true_eq, decide_eq_false_iff_not, Bool.not_eq_true', Bool.not_eq_false', Bool.and_eq_true, Bool.or_eq_false_iff, ne_eq, Classical.not_not] at hx); (first | (exfalso; omega) | skip)) | with_reducible refine branch_t ?_ | with_reducible refine branch_f ?_) <;> (try simp (maxSteps := 1000000) (disch := omega) only [push_cast, go_sem, simprocAttr, *]))
    | with_reducible refine cond_split ?_ ?_
    | with_reducible refine guard_split ?_ ?_
    | with_reducible refine still_split ?_ ?_
    | ((with_reducible refine drw_own ?_); simp (maxSteps := 1000000) (disch := omega) only [push_cast, go_sem, simprocAttr, *]; (with_reducible refine drw_id ?_))
    | ((first | with_reducible refine drw_in ?_) <;> (try simp (maxSteps := 1000000) (disch := omega) only [push_cast, go_sem, simprocAttr, *]))
    | omega)
  all_goals simp [mayL, *]
  omega
/-- Is a value of the kind that a letter says? -/
def fit1 (f : ValA) (v : ValA) (k : UInt8) : Bool := if (k.toNat : Int) = 110 then decide (v.kind = 1) else if (k.toNat : Int) = 116 then decide (v.kind = 2) else if (k.toNat : Int) = 99 then decide (v.kind ≠ 0 ∧ v.kind = f.kind) else true
def fitsL (l : List ValA) (k : List UInt8) : Bool := (l.zip k).all fun x => fit1 (l.headD ⟨0, 0, []⟩) x.1 x.2
theorem fits_spec (f : Bool) (l : List ValA) (k : List UInt8) (h : l.length = k.length) : Spec Tryd.prog 32 [.lst f 3 (l.map encV), .str (ofL k)] (.bool (fitsL l k)) [.lst f 3 (l.map encV), .str (ofL k)] := by
  refine spec_go Tryd.f32 ?_; simp (maxSteps := 1000000) (disch := omega) only [push_cast, go_sem, simprocAttr, Tryd.f32, *]
  repeat' (first
    | with_reducible refine And.intro ?_ ?_
    | ((first | (with_reducible intro hx; (try simp only [false_dec, true_dec, Int.ofNat_inj, gt_iff_lt, ge_iff_le, decide_eq_true_eq, decide_eq_false_iff_not, Bool.not_eq_true', Bool.not_eq_false', Bool.and_eq_true, Bool.or_eq_false_iff, ne_eq, Classical.not_not] at hx); (first | (exfalso; omega) | skip)) | with_reducible refine branch_t ?_ | with_reducible refine branch_f ?_) <;> (try simp (maxSteps := 1000000) (disch := omega) only [push_cast, go_sem, simprocAttr, *]))
    | with_reducible refine cond_split ?_ ?_
    | with_reducible refine guard_split ?_ ?_
    | with_reducible refine still_split ?_ ?_
    | ((with_reducible refine drw_own ?_); simp (maxSteps := 1000000) (disch := omega) only [push_cast, go_sem, simprocAttr, *]; (with_reducible refine drw_id ?_))
    | ((first | with_reducible refine drw_in ?_) <;> (try simp (maxSteps := 1000000) (disch := omega) only [push_cast, go_sem, simprocAttr, *]))
    | omega)
  refine loop_go (σ := Nat) (fun i N => ([(9, .int .i64 i), (8, .int .i64 k.length), (7, .lst f 3 (l.map encV)), (0, .lst f 3 (l.map encV)), (1, .str (ofL k))], [])) (fun i => i ≤ k.length ∧ ((l.zip k).take i).all (fun x => fit1 (l.headD ⟨0, 0, []⟩) x.1 x.2) = true) (fun i => k.length - i) 0 ⟨by omega, by simp⟩ ?_
  rintro i N hN ⟨hi, hinv⟩
  have hd : ∀ h : 0 < l.length, l.headD ⟨0, 0, []⟩ = l[0] := fun h => by cases l with | nil => simp at h | cons a l => rfl
  have hk : ∀ h' : i < k.length, k.getD i 0 = k[i] := fun h' => by simp [h']
  have bad : ∀ h' : i < k.length, ¬ fit1 l[0] l[i] (k.getD i 0) = true → fitsL l k = false := fun h' hb => by
    rw [hk h'] at hb
    refine Bool.eq_false_iff.2 fun hc => hb ?_
    have := List.all_eq_true.1 hc (l[i], k[i]) (List.mem_iff_getElem.2 ⟨i, by simp; omega, by simp⟩)
    rwa [hd (by omega)] at this
  have good : ∀ h' : i < k.length, fit1 l[0] l[i] (k.getD i 0) = true → ((l.zip k).take (i + 1)).all (fun x => fit1 (l.headD ⟨0, 0, []⟩) x.1 x.2) = true := fun h' hb => by
    rw [hk h'] at hb
    rw [all_take_succ (by simp; omega), hinv, hd (by omega)]
    simpa using hb
  have fin : ¬ i < k.length → fitsL l k = true := fun h' => by
    rw [List.take_of_length_le (by simp; omega)] at hinv
    exact hinv
  clear hinv hd hk
  simp (maxSteps := 1000000) (disch := omega) only [push_cast, go_sem, simprocAttr, *]
  repeat' (first
    | with_reducible refine And.intro ?_ ?_
    | ((first | (with_reducible intro hx; (try simp only [false_dec, true_dec, Int.ofNat_inj, gt_iff_lt, ge_iff_le, decide_eq_true_eq, decide_eq_false_iff_not, Bool.not_eq_true', Bool.not_eq_false', Bool.and_eq_true, Bool.or_eq_false_iff, ne_eq, Classical.not_not] at hx); (first | (exfalso; omega) | skip)) | with_reducible refine branch_t ?_ | with_reducible refine branch_f ?_) <;> (try simp (maxSteps := 1000000) (disch := omega) only [push_cast, go_sem, simprocAttr, *]))
    | with_reducible refine cond_split ?_ ?_
    | with_reducible refine guard_split ?_ ?_
    | with_reducible refine still_split ?_ ?_
    | ((with_reducible refine drw_own ?_); simp (maxSteps := 1000000) (disch := omega) only [push_cast, go_sem, simprocAttr, *]; (with_reducible refine drw_id ?_))
    | ((first | with_reducible refine drw_in ?_) <;> (try simp (maxSteps := 1000000) (disch := omega) only [push_cast, go_sem, simprocAttr, *]))
    | omega)
  all_goals first
    | (rw [fin (by omega)]; done)
    | (rw [bad (by omega) (by unfold fit1; generalize k.getD i 0 = c at *; simp [*] <;> omega)]; done)
    | (refine loop_on (i + 1) ⟨by omega, good (by omega) (by unfold fit1; generalize k.getD i 0 = c at *; simp [*] <;> omega)⟩)
end Go.Ev

/-
The shelf's layings at this seat's program (written by the kit's lay-shelf and lay-plain).
-/
namespace Go.Proofs
open Go.Shelf
def Tryd.laysM173_ren : Go.Shelf.Ren := ⟨fun | 173 => 39 | 246 => 52 | 283 => 64 | 284 => 65 | 285 => 66 | 286 => 67 | 129 => 86 | 317 => 85 | 318 => 87 | 319 => 88 | 320 => 89 | 337 => 97 | 338 => 98 | n => n, fun | 2 => 2 | 3 => 3 | 9 => 9 | 4 => 4 | 171 => 106 | 0 => 0 | 53 => 107 | 37 => 75 | 5 => 5 | 173 => 110 | 212 => 129 | 51 => 130 | 20 => 20 | 213 => 131 | 46 => 97 | 232 => 149 | 233 => 150 | n => n, fun | 17 => 1 | 18 => 6 | 19 => 7 | n => n⟩
theorem Tryd.laysM173 : Go.Proofs.LaysM.n173 Tryd.prog Tryd.laysM173_ren := {
  mixed := by kernel_rfl
  f129 := Tryd.func86.trans (congrArg some (by kernel_rfl))
  f173 := Tryd.func39.trans (congrArg some (by kernel_rfl))
  f246 := Tryd.func52.trans (congrArg some (by kernel_rfl))
  f283 := Tryd.func64.trans (congrArg some (by kernel_rfl))
  f284 := Tryd.func65.trans (congrArg some (by kernel_rfl))
  f285 := Tryd.func66.trans (congrArg some (by kernel_rfl))
  f286 := Tryd.func67.trans (congrArg some (by kernel_rfl))
  f317 := Tryd.func85.trans (congrArg some (by kernel_rfl))
  f318 := Tryd.func87.trans (congrArg some (by kernel_rfl))
  f319 := Tryd.func88.trans (congrArg some (by kernel_rfl))
  f320 := Tryd.func89.trans (congrArg some (by kernel_rfl))
  f337 := Tryd.func97.trans (congrArg some (by kernel_rfl))
  f338 := Tryd.func98.trans (congrArg some (by kernel_rfl))
  t0 := Tryd.underlying0
  a0 := Tryd.isAgg0
  z0 := Tryd.sizeOf0
  v0 := Tryd.zeroValue0
  t2 := Tryd.underlying2
  a2 := Tryd.isAgg2
  z2 := Tryd.sizeOf2
  v2 := Tryd.zeroValue2
  t3 := Tryd.underlying3
  a3 := Tryd.isAgg3
  z3 := Tryd.sizeOf3
  v3 := Tryd.zeroValue3
  t4 := Tryd.underlying4
  a4 := Tryd.isAgg4
  z4 := Tryd.sizeOf4
  v4 := Tryd.zeroValue4
  t5 := Tryd.underlying5
  a5 := Tryd.isAgg5
  z5 := Tryd.sizeOf5
  v5 := Tryd.zeroValue5
  t9 := Tryd.underlying9
  a9 := Tryd.isAgg9
  z9 := Tryd.sizeOf9
  v9 := Tryd.zeroValue9
  t20 := Tryd.underlying20
  a20 := Tryd.isAgg20
  z20 := Tryd.sizeOf20
  v20 := Tryd.zeroValue20
  t37 := Tryd.underlying75
  a37 := Tryd.isAgg75
  z37 := Tryd.sizeOf75
  v37 := Tryd.zeroValue75
  t46 := Tryd.underlying97
  a46 := Tryd.isAgg97
  z46 := Tryd.sizeOf97
  v46 := Tryd.zeroValue97
  t51 := Tryd.underlying130
  a51 := Tryd.isAgg130
  z51 := Tryd.sizeOf130
  v51 := Tryd.zeroValue130
  t53 := Tryd.underlying107
  a53 := Tryd.isAgg107
  z53 := Tryd.sizeOf107
  v53 := Tryd.zeroValue107
  t171 := Tryd.underlying106
  a171 := Tryd.isAgg106
  z171 := Tryd.sizeOf106
  v171 := Tryd.zeroValue106
  t173 := Tryd.underlying110
  a173 := Tryd.isAgg110
  z173 := Tryd.sizeOf110
  v173 := Tryd.zeroValue110
  t212 := Tryd.underlying129
  a212 := Tryd.isAgg129
  z212 := Tryd.sizeOf129
  v212 := Tryd.zeroValue129
  t213 := Tryd.underlying131
  a213 := Tryd.isAgg131
  z213 := Tryd.sizeOf131
  t232 := Tryd.underlying149
  a232 := Tryd.isAgg149
  z232 := Tryd.sizeOf149
  v232 := Tryd.zeroValue149
  t233 := Tryd.underlying150
  a233 := Tryd.isAgg150
  z233 := Tryd.sizeOf150
  v233 := Tryd.zeroValue150
  g17 := by kernel_rfl
  g18 := by kernel_rfl
  g19 := by kernel_rfl
  i0 := by kernel_rfl
  i2 := by kernel_rfl
  i3 := by kernel_rfl
  i4 := by kernel_rfl
  i5 := by kernel_rfl
  i9 := by kernel_rfl
  i20 := by kernel_rfl
  i37 := by kernel_rfl
  i46 := by kernel_rfl
  i51 := by kernel_rfl
  i53 := by kernel_rfl
  i171 := by kernel_rfl
  i173 := by kernel_rfl
  i212 := by kernel_rfl
  i232 := by kernel_rfl
  i233 := by kernel_rfl
  m17 := by kernel_rfl
  m18 := by kernel_rfl
  m19 := by kernel_rfl }
def Tryd.laysC174_ren : Go.Shelf.Ren := ⟨fun | 174 => 50 | 247 => 61 | 245 => 62 | 287 => 77 | 279 => 78 | 280 => 79 | 281 => 80 | 282 => 81 | 321 => 91 | 322 => 92 | 316 => 93 | 171 => 95 | 205 => 94 | 243 => 99 | 246 => 52 | 283 => 64 | 284 => 65 | 285 => 66 | 286 => 67 | 129 => 86 | 317 => 85 | 318 => 87 | 319 => 88 | 320 => 89 | 337 => 97 | 338 => 98 | n => n, fun | 9 => 9 | 3 => 3 | 2 => 2 | 75 => 88 | 85 => 98 | 4 => 4 | 167 => 121 | 5 => 5 | 53 => 107 | 175 => 122 | 46 => 97 | 168 => 124 | 37 => 75 | 0 => 0 | 210 => 137 | 21 => 21 | 127 => 100 | 145 => 148 | 143 => 146 | 171 => 106 | 173 => 110 | 212 => 129 | 51 => 130 | 20 => 20 | 213 => 131 | 232 => 149 | 233 => 150 | 80 => 69 | n => n, fun | 15 => 2 | 16 => 3 | 17 => 1 | 18 => 6 | 19 => 7 | n => n⟩
theorem Tryd.laysC174 : Go.Proofs.LaysC.n174 Tryd.prog Tryd.laysC174_ren := {
  mixed := by kernel_rfl
  f129 := Tryd.func86.trans (congrArg some (by kernel_rfl))
  f171 := Tryd.func95.trans (congrArg some (by kernel_rfl))
  f174 := Tryd.func50.trans (congrArg some (by kernel_rfl))
  f205 := Tryd.func94.trans (congrArg some (by kernel_rfl))
  f243 := Tryd.func99.trans (congrArg some (by kernel_rfl))
  f245 := Tryd.func62.trans (congrArg some (by kernel_rfl))
  f246 := Tryd.func52.trans (congrArg some (by kernel_rfl))
  f247 := Tryd.func61.trans (congrArg some (by kernel_rfl))
  f279 := Tryd.func78.trans (congrArg some (by kernel_rfl))
  f280 := Tryd.func79.trans (congrArg some (by kernel_rfl))
  f281 := Tryd.func80.trans (congrArg some (by kernel_rfl))
  f282 := Tryd.func81.trans (congrArg some (by kernel_rfl))
  f283 := Tryd.func64.trans (congrArg some (by kernel_rfl))
  f284 := Tryd.func65.trans (congrArg some (by kernel_rfl))
  f285 := Tryd.func66.trans (congrArg some (by kernel_rfl))
  f286 := Tryd.func67.trans (congrArg some (by kernel_rfl))
  f287 := Tryd.func77.trans (congrArg some (by kernel_rfl))
  f316 := Tryd.func93.trans (congrArg some (by kernel_rfl))
  f317 := Tryd.func85.trans (congrArg some (by kernel_rfl))
  f318 := Tryd.func87.trans (congrArg some (by kernel_rfl))
  f319 := Tryd.func88.trans (congrArg some (by kernel_rfl))
  f320 := Tryd.func89.trans (congrArg some (by kernel_rfl))
  f321 := Tryd.func91.trans (congrArg some (by kernel_rfl))
  f322 := Tryd.func92.trans (congrArg some (by kernel_rfl))
  f337 := Tryd.func97.trans (congrArg some (by kernel_rfl))
  f338 := Tryd.func98.trans (congrArg some (by kernel_rfl))
  t0 := Tryd.underlying0
  a0 := Tryd.isAgg0
  z0 := Tryd.sizeOf0
  v0 := Tryd.zeroValue0
  t2 := Tryd.underlying2
  a2 := Tryd.isAgg2
  z2 := Tryd.sizeOf2
  v2 := Tryd.zeroValue2
  t3 := Tryd.underlying3
  a3 := Tryd.isAgg3
  z3 := Tryd.sizeOf3
  v3 := Tryd.zeroValue3
  t4 := Tryd.underlying4
  a4 := Tryd.isAgg4
  z4 := Tryd.sizeOf4
  v4 := Tryd.zeroValue4
  t5 := Tryd.underlying5
  a5 := Tryd.isAgg5
  z5 := Tryd.sizeOf5
  v5 := Tryd.zeroValue5
  t9 := Tryd.underlying9
  a9 := Tryd.isAgg9
  z9 := Tryd.sizeOf9
  v9 := Tryd.zeroValue9
  t20 := Tryd.underlying20
  a20 := Tryd.isAgg20
  z20 := Tryd.sizeOf20
  v20 := Tryd.zeroValue20
  t21 := Tryd.underlying21
  a21 := Tryd.isAgg21
  z21 := Tryd.sizeOf21
  v21 := Tryd.zeroValue21
  t37 := Tryd.underlying75
  a37 := Tryd.isAgg75
  z37 := Tryd.sizeOf75
  v37 := Tryd.zeroValue75
  t46 := Tryd.underlying97
  a46 := Tryd.isAgg97
  z46 := Tryd.sizeOf97
  v46 := Tryd.zeroValue97
  t51 := Tryd.underlying130
  a51 := Tryd.isAgg130
  z51 := Tryd.sizeOf130
  v51 := Tryd.zeroValue130
  t53 := Tryd.underlying107
  a53 := Tryd.isAgg107
  z53 := Tryd.sizeOf107
  v53 := Tryd.zeroValue107
  t75 := Tryd.underlying88
  a75 := Tryd.isAgg88
  z75 := Tryd.sizeOf88
  v75 := Tryd.zeroValue88
  t85 := Tryd.underlying98
  a85 := Tryd.isAgg98
  z85 := Tryd.sizeOf98
  v85 := Tryd.zeroValue98
  t127 := Tryd.underlying100
  a127 := Tryd.isAgg100
  z127 := Tryd.sizeOf100
  v127 := Tryd.zeroValue100
  t143 := Tryd.underlying146
  a143 := Tryd.isAgg146
  z143 := Tryd.sizeOf146
  v143 := Tryd.zeroValue146
  t145 := Tryd.underlying148
  a145 := Tryd.isAgg148
  z145 := Tryd.sizeOf148
  v145 := Tryd.zeroValue148
  t167 := Tryd.underlying121
  a167 := Tryd.isAgg121
  z167 := Tryd.sizeOf121
  v167 := Tryd.zeroValue121
  t168 := Tryd.underlying124
  a168 := Tryd.isAgg124
  z168 := Tryd.sizeOf124
  v168 := Tryd.zeroValue124
  t171 := Tryd.underlying106
  a171 := Tryd.isAgg106
  z171 := Tryd.sizeOf106
  v171 := Tryd.zeroValue106
  t173 := Tryd.underlying110
  a173 := Tryd.isAgg110
  z173 := Tryd.sizeOf110
  v173 := Tryd.zeroValue110
  t175 := Tryd.underlying122
  a175 := Tryd.isAgg122
  z175 := Tryd.sizeOf122
  v175 := Tryd.zeroValue122
  t210 := Tryd.underlying137
  a210 := Tryd.isAgg137
  z210 := Tryd.sizeOf137
  v210 := Tryd.zeroValue137
  t212 := Tryd.underlying129
  a212 := Tryd.isAgg129
  z212 := Tryd.sizeOf129
  v212 := Tryd.zeroValue129
  t213 := Tryd.underlying131
  a213 := Tryd.isAgg131
  z213 := Tryd.sizeOf131
  t232 := Tryd.underlying149
  a232 := Tryd.isAgg149
  z232 := Tryd.sizeOf149
  v232 := Tryd.zeroValue149
  t233 := Tryd.underlying150
  a233 := Tryd.isAgg150
  z233 := Tryd.sizeOf150
  v233 := Tryd.zeroValue150
  g15 := by kernel_rfl
  g16 := by kernel_rfl
  g17 := by kernel_rfl
  g18 := by kernel_rfl
  g19 := by kernel_rfl
  t80 := Tryd.underlying69
  a80 := Tryd.isAgg69
  z80 := Tryd.sizeOf69
  v80 := Tryd.zeroValue69
  i0 := by kernel_rfl
  i2 := by kernel_rfl
  i3 := by kernel_rfl
  i4 := by kernel_rfl
  i5 := by kernel_rfl
  i9 := by kernel_rfl
  i20 := by kernel_rfl
  i21 := by kernel_rfl
  i37 := by kernel_rfl
  i46 := by kernel_rfl
  i51 := by kernel_rfl
  i53 := by kernel_rfl
  i75 := by kernel_rfl
  i80 := by kernel_rfl
  i85 := by kernel_rfl
  i127 := by kernel_rfl
  i143 := by kernel_rfl
  i145 := by kernel_rfl
  i167 := by kernel_rfl
  i168 := by kernel_rfl
  i171 := by kernel_rfl
  i173 := by kernel_rfl
  i175 := by kernel_rfl
  i210 := by kernel_rfl
  i212 := by kernel_rfl
  i232 := by kernel_rfl
  i233 := by kernel_rfl
  m15 := by kernel_rfl
  m16 := by kernel_rfl
  m17 := by kernel_rfl
  m18 := by kernel_rfl
  m19 := by kernel_rfl
  c0 := by kernel_rfl
  c2 := by kernel_rfl
  c3 := by kernel_rfl
  c4 := by kernel_rfl
  c5 := by kernel_rfl
  c9 := by kernel_rfl
  c20 := by kernel_rfl
  c21 := by kernel_rfl
  c37 := by kernel_rfl
  c46 := by kernel_rfl
  c51 := by kernel_rfl
  c53 := by kernel_rfl
  c75 := by kernel_rfl
  c80 := by kernel_rfl
  c85 := by kernel_rfl
  c127 := by kernel_rfl
  c143 := by kernel_rfl
  c145 := by kernel_rfl
  c167 := by kernel_rfl
  c168 := by kernel_rfl
  c171 := by kernel_rfl
  c173 := by kernel_rfl
  c175 := by kernel_rfl
  c210 := by kernel_rfl
  c212 := by kernel_rfl
  c213 := by kernel_rfl
  c232 := by kernel_rfl
  c233 := by kernel_rfl }
def Tryd.lays144_ren : Go.Shelf.Ren := ⟨fun | 144 => 71 | 143 => 60 | 219 => 63 | 217 => 35 | 225 => 82 | 224 => 83 | 267 => 84 | 266 => 48 | 314 => 96 | n => n, fun | 9 => 9 | 4 => 4 | 3 => 3 | 5 => 5 | 46 => 97 | 146 => 139 | 51 => 130 | n => n, fun | 1 => 0 | n => n⟩
theorem Tryd.lays144 : Go.Proofs.Lays.n144 Tryd.prog Tryd.lays144_ren := {
  mixed := by kernel_rfl
  f143 := Tryd.func60.trans (congrArg some (by kernel_rfl))
  f144 := Tryd.func71.trans (congrArg some (by kernel_rfl))
  f217 := Tryd.func35.trans (congrArg some (by kernel_rfl))
  f219 := Tryd.func63.trans (congrArg some (by kernel_rfl))
  f224 := Tryd.func83.trans (congrArg some (by kernel_rfl))
  f225 := Tryd.func82.trans (congrArg some (by kernel_rfl))
  f266 := Tryd.func48.trans (congrArg some (by kernel_rfl))
  f267 := Tryd.func84.trans (congrArg some (by kernel_rfl))
  f314 := Tryd.func96.trans (congrArg some (by kernel_rfl))
  t3 := Tryd.underlying3
  a3 := Tryd.isAgg3
  z3 := Tryd.sizeOf3
  v3 := Tryd.zeroValue3
  t4 := Tryd.underlying4
  a4 := Tryd.isAgg4
  z4 := Tryd.sizeOf4
  v4 := Tryd.zeroValue4
  t5 := Tryd.underlying5
  a5 := Tryd.isAgg5
  z5 := Tryd.sizeOf5
  v5 := Tryd.zeroValue5
  t9 := Tryd.underlying9
  a9 := Tryd.isAgg9
  z9 := Tryd.sizeOf9
  v9 := Tryd.zeroValue9
  t46 := Tryd.underlying97
  a46 := Tryd.isAgg97
  z46 := Tryd.sizeOf97
  v46 := Tryd.zeroValue97
  t51 := Tryd.underlying130
  a51 := Tryd.isAgg130
  z51 := Tryd.sizeOf130
  v51 := Tryd.zeroValue130
  t146 := Tryd.underlying139
  a146 := Tryd.isAgg139
  z146 := Tryd.sizeOf139
  v146 := Tryd.zeroValue139
  g1 := by kernel_rfl }
def Tryd.lays146_ren : Go.Shelf.Ren := ⟨fun | 146 => 34 | 221 => 47 | 268 => 58 | 138 => 59 | 143 => 60 | 195 => 74 | 197 => 75 | 218 => 76 | 219 => 63 | 260 => 90 | 217 => 35 | 225 => 82 | 224 => 83 | 267 => 84 | 266 => 48 | 314 => 96 | n => n, fun | 9 => 9 | 31 => 42 | 3 => 3 | 4 => 4 | 0 => 0 | 105 => 119 | 21 => 21 | 5 => 5 | 46 => 97 | 119 => 142 | 139 => 145 | 138 => 144 | 146 => 139 | 51 => 130 | n => n, fun | 1 => 0 | 3 => 4 | 4 => 5 | n => n⟩
theorem Tryd.lays146 : Go.Proofs.Lays.n146 Tryd.prog Tryd.lays146_ren := {
  mixed := by kernel_rfl
  f138 := Tryd.func59.trans (congrArg some (by kernel_rfl))
  f143 := Tryd.func60.trans (congrArg some (by kernel_rfl))
  f146 := Tryd.func34.trans (congrArg some (by kernel_rfl))
  f195 := Tryd.func74.trans (congrArg some (by kernel_rfl))
  f197 := Tryd.func75.trans (congrArg some (by kernel_rfl))
  f217 := Tryd.func35.trans (congrArg some (by kernel_rfl))
  f218 := Tryd.func76.trans (congrArg some (by kernel_rfl))
  f219 := Tryd.func63.trans (congrArg some (by kernel_rfl))
  f221 := Tryd.func47.trans (congrArg some (by kernel_rfl))
  f224 := Tryd.func83.trans (congrArg some (by kernel_rfl))
  f225 := Tryd.func82.trans (congrArg some (by kernel_rfl))
  f260 := Tryd.func90.trans (congrArg some (by kernel_rfl))
  f266 := Tryd.func48.trans (congrArg some (by kernel_rfl))
  f267 := Tryd.func84.trans (congrArg some (by kernel_rfl))
  f268 := Tryd.func58.trans (congrArg some (by kernel_rfl))
  f314 := Tryd.func96.trans (congrArg some (by kernel_rfl))
  t0 := Tryd.underlying0
  a0 := Tryd.isAgg0
  z0 := Tryd.sizeOf0
  v0 := Tryd.zeroValue0
  t3 := Tryd.underlying3
  a3 := Tryd.isAgg3
  z3 := Tryd.sizeOf3
  v3 := Tryd.zeroValue3
  t4 := Tryd.underlying4
  a4 := Tryd.isAgg4
  z4 := Tryd.sizeOf4
  v4 := Tryd.zeroValue4
  t5 := Tryd.underlying5
  a5 := Tryd.isAgg5
  z5 := Tryd.sizeOf5
  v5 := Tryd.zeroValue5
  t9 := Tryd.underlying9
  a9 := Tryd.isAgg9
  z9 := Tryd.sizeOf9
  v9 := Tryd.zeroValue9
  t21 := Tryd.underlying21
  a21 := Tryd.isAgg21
  z21 := Tryd.sizeOf21
  v21 := Tryd.zeroValue21
  t31 := Tryd.underlying42
  a31 := Tryd.isAgg42
  z31 := Tryd.sizeOf42
  v31 := Tryd.zeroValue42
  t46 := Tryd.underlying97
  a46 := Tryd.isAgg97
  z46 := Tryd.sizeOf97
  v46 := Tryd.zeroValue97
  t51 := Tryd.underlying130
  a51 := Tryd.isAgg130
  z51 := Tryd.sizeOf130
  v51 := Tryd.zeroValue130
  t105 := Tryd.underlying119
  a105 := Tryd.isAgg119
  z105 := Tryd.sizeOf119
  v105 := Tryd.zeroValue119
  t119 := Tryd.underlying142
  a119 := Tryd.isAgg142
  z119 := Tryd.sizeOf142
  t138 := Tryd.underlying144
  a138 := Tryd.isAgg144
  z138 := Tryd.sizeOf144
  v138 := Tryd.zeroValue144
  t139 := Tryd.underlying145
  a139 := Tryd.isAgg145
  z139 := Tryd.sizeOf145
  v139 := Tryd.zeroValue145
  t146 := Tryd.underlying139
  a146 := Tryd.isAgg139
  z146 := Tryd.sizeOf139
  v146 := Tryd.zeroValue139
  g1 := by kernel_rfl
  g3 := by kernel_rfl
  g4 := by kernel_rfl }
end Go.Proofs

set_option linter.unusedVariables false
set_option linter.unusedSimpArgs false
namespace Go.Ev
open Go.Proofs Go.RowKit
set_option maxRecDepth 100000
/-- The number whose text it is. -/
def numF (l : List UInt8) : Int × Bool := match Lib.parseIntB 64 l with
  | .ok v => if Lib.itoa v = l then (v, true) else (0, false)
  | _ => (0, false)
theorem enter_of {P : Program} {f : FuncId} {fn : Func} {c : Code} (hf : P.funcs[f]? = some fn) (hn : (fn.name == "runtime.NumGoroutine") = false) (hb : fn.body = some c) : Enter P f := ⟨fn, hf, hn, by rw [hb]; rfl⟩
theorem itoa_spec (n : Int) (h0 : -9223372036854775808 ≤ n) (h1 : n ≤ 9223372036854775807) : Spec Tryd.prog 39 [.int .i64 n, .int .i64 10] (.str (ofL (Lib.itoa n))) [.int .i64 n, .int .i64 10] :=
  itoa_lift (enter_of Tryd.func39 (by kernel_rfl) rfl) n h0 h1 fun w st hG => Any.strconv_FormatInt_10 Tryd.laysM173 n h0 h1 w (tab_of hG (g := 1) (by kernel_rfl) (by kernel_rfl))
theorem contains_spec (s t : List UInt8) (hs : s.length ≤ 1024) : Spec Tryd.prog 71 [.str (ofL s), .str (ofL t)] (.bool (Lib.contains s t)) [.str (ofL s), .str (ofL t)] :=
  contains_lift Tryd.lays144 (enter_of Tryd.func71 (by kernel_rfl) rfl) (by kernel_rfl) s t (by omega)
theorem split_spec (s : List UInt8) (hs : s.length ≤ 1024) : Spec Tryd.prog 34 [.str (ofL s), .str (ofL [59])] (.olst 1 (((Lib.splitB (ofL [59]) 0 (Lib.countB (ofL s) (ofL [59])) (ofL s)).map (·.data.toList)).map fun x => .str (ofL x))) [.str (ofL s), .str (ofL [59])] :=
  split_lift Tryd.lays146 (enter_of Tryd.func34 (by kernel_rfl) rfl) (by kernel_rfl) (by kernel_rfl) s [59] (by omega) (by decide)
theorem number_calls (s : ByteArray) (hs : s.size ≤ 140737488355328) (w : World) (st : Bool → Nat → Prop) (hst : ∀ fl b, st fl b → b < w.heap.size) (hG : Gk Tryd.prog (bare w.heap st)) :
    Calls Tryd.prog 37 #[.string s] w fun e w' => e = .returned (.tuple #[.int .i64 (numF s.data.toList).1, .bool (numF s.data.toList).2]) ∧ Quiet w w' := by
  rcases hp : Lib.parseIntB 64 s.data.toList with v | _ | _
  · have e : s.toList = s.data.toList := by have e := ofL_toList (l := s.data.toList); rwa [← ofL_of] at e
    have hn : numF s.data.toList = if (!Lib.itoa v == s.toList) = true then (0, false) else (v, true) := by unfold numF; rw [hp, e]; by_cases h : Lib.itoa v = s.data.toList <;> simp [h]
    have hb := Lib.parseIntB_bounds hp
    rw [hn]
    clear hn
    go_enter Tryd.func37, Tryd.ntmps37
    go_wp2_with (first
      | (go_at_call 50; refine (Any.strconv_ParseInt_10_at64_ok Tryd.laysC174 s (by omega) v hp _).mono ?_; rintro e w' ⟨rfl, hw⟩; have hq : Quiet w w' := (by rcases hw with rfl | ⟨t, rfl⟩; exact .refl _; exact .bytes); clear hw)
      | (go_at_call 39; refine (Any.strconv_FormatInt_10 Tryd.laysM173 v (by omega) (by omega) _ (tab_of (hG.quiet hst hq) (g := 1) (by kernel_rfl) (by kernel_rfl))).mono ?_; rintro e w'' ⟨rfl, k, os, hw⟩; have hq2 : Quiet w w'' := (by subst hw; exact hq.trans .grow); clear hw))
    all_goals (go_ret2; exact ⟨rfl, hq2⟩)
  · have hn : numF s.data.toList = (0, false) := by unfold numF; rw [hp]
    rw [hn]
    clear hn
    obtain ⟨ev, hv, hev⟩ := var_of hG (g := 2) (by kernel_rfl)
    go_enter Tryd.func37, Tryd.ntmps37
    go_wp2_with (first
      | (go_at_call 50; refine (Any.strconv_ParseInt_10_at64_syntax Tryd.laysC174 s (by omega) hp ev w hv hev).mono ?_; rintro e w' ⟨N, rfl, hN, hN2, hw⟩; have hq : Quiet w w' := .below hw; clear hw hN2))
    go_ret2
    exact ⟨rfl, hq⟩
  · have hn : numF s.data.toList = (0, false) := by unfold numF; rw [hp]
    rw [hn]
    clear hn
    obtain ⟨ev, hv, hev⟩ := var_of hG (g := 3) (by kernel_rfl)
    go_enter Tryd.func37, Tryd.ntmps37
    go_wp2_with (first
      | (go_at_call 50; refine (Any.strconv_ParseInt_10_at64_range Tryd.laysC174 s (by omega) hp ev w hv hev).mono ?_; rintro e w' ⟨N, rfl, hN, hN2, hw⟩; have hq : Quiet w w' := .below hw; clear hw hN2))
    go_ret2
    exact ⟨rfl, hq⟩
theorem number_spec (s : List UInt8) : Spec Tryd.prog 37 [.str (ofL s)] (.tup [.int .i64 (numF s).1, .bool (numF s).2]) [.str (ofL s)] := by
  refine spec_quiet (enter_of Tryd.func37 (by kernel_rfl) rfl) rfl fun w st vs hv hst hG => ?_
  obtain ⟨v1, u1, e1, h1, t1⟩ := hv.inv
  obtain rfl := t1.inv0
  cases h1 with
  | str _ hs =>
    obtain rfl : vs = #[_] := Array.toList_inj.1 e1
    refine (number_calls (ofL s) (by unfold MX at hs; omega) w st hst hG).mono fun e w' ⟨h1, h2⟩ => ⟨_, h1, h2, fun E => .tup (.cons (l := []) (m := []) (.int _ _) (.cons (l := []) (m := []) (.bool _) .nil))⟩
end Go.Ev

set_option linter.unusedVariables false
set_option linter.unusedSimpArgs false
namespace Go.Ev
set_option maxRecDepth 100000
set_option maxHeartbeats 0
open Go.Proofs
def vNum (n : Int) : ValA := ⟨1, n, []⟩
def vTxt (s : List UInt8) : ValA := ⟨2, 0, s⟩
def vNone : ValA := ⟨0, 0, []⟩
def vYes (b : Bool) : ValA := ⟨1, if b = true then 1 else 0, []⟩
abbrev w64 (n : Int) : Int := IntKind.i64.wrap n
theorem number_f (n : Int) : Spec Tryd.prog 44 [.int .i64 n] (.agg [.int .i64 1, .int .i64 n, .str (ofL [])]) [.int .i64 n] := by
  refine spec_go Tryd.f44 ?_; simp (maxSteps := 1000000) (disch := omega) only [push_cast, go_sem, simprocAttr, Tryd.f44, *]
  repeat' (first
    | with_reducible refine And.intro ?_ ?_
    | ((first | (with_reducible intro hx; (try simp only [false_dec, true_dec, Int.ofNat_inj, gt_iff_lt, ge_iff_le, decide_eq_true_eq, decide_eq_false_iff_not, Bool.not_eq_true', Bool.not_eq_false', Bool.and_eq_true, Bool.or_eq_false_iff, ne_eq, Classical.not_not] at hx); (first | (exfalso; omega) | skip)) | with_reducible refine branch_t ?_ | with_reducible refine branch_f ?_) <;> (try simp (maxSteps := 1000000) (disch := omega) only [push_cast, go_sem, simprocAttr, *]))
    | with_reducible refine cond_split ?_ ?_
    | with_reducible refine guard_split ?_ ?_
    | with_reducible refine still_split ?_ ?_
    | ((with_reducible refine drw_own ?_); simp (maxSteps := 1000000) (disch := omega) only [push_cast, go_sem, simprocAttr, *]; (with_reducible refine drw_id ?_))
    | ((first | with_reducible refine drw_in ?_) <;> (try simp (maxSteps := 1000000) (disch := omega) only [push_cast, go_sem, simprocAttr, *]))
    | omega)
theorem text_f (s : List UInt8) : Spec Tryd.prog 45 [.str (ofL s)] (.agg [.int .i64 2, .int .i64 0, .str (ofL s)]) [.str (ofL s)] := by
  refine spec_go Tryd.f45 ?_; simp (maxSteps := 1000000) (disch := omega) only [push_cast, go_sem, simprocAttr, Tryd.f45, *]
  repeat' (first
    | with_reducible refine And.intro ?_ ?_
    | ((first | (with_reducible intro hx; (try simp only [false_dec, true_dec, Int.ofNat_inj, gt_iff_lt, ge_iff_le, decide_eq_true_eq, decide_eq_false_iff_not, Bool.not_eq_true', Bool.not_eq_false', Bool.and_eq_true, Bool.or_eq_false_iff, ne_eq, Classical.not_not] at hx); (first | (exfalso; omega) | skip)) | with_reducible refine branch_t ?_ | with_reducible refine branch_f ?_) <;> (try simp (maxSteps := 1000000) (disch := omega) only [push_cast, go_sem, simprocAttr, *]))
    | with_reducible refine cond_split ?_ ?_
    | with_reducible refine guard_split ?_ ?_
    | with_reducible refine still_split ?_ ?_
    | ((with_reducible refine drw_own ?_); simp (maxSteps := 1000000) (disch := omega) only [push_cast, go_sem, simprocAttr, *]; (with_reducible refine drw_id ?_))
    | ((first | with_reducible refine drw_in ?_) <;> (try simp (maxSteps := 1000000) (disch := omega) only [push_cast, go_sem, simprocAttr, *]))
    | omega)
theorem truth_f (b : Bool) : Spec Tryd.prog 57 [.bool b] (.agg [.int .i64 1, .int .i64 (if b = true then 1 else 0), .str (ofL [])]) [.bool b] := by
  refine spec_go Tryd.f57 ?_; simp (maxSteps := 1000000) (disch := omega) only [push_cast, go_sem, simprocAttr, Tryd.f57, *]
  repeat' (first
    | with_reducible refine And.intro ?_ ?_
    | ((first | (with_reducible intro hx; (try simp only [false_dec, true_dec, Int.ofNat_inj, gt_iff_lt, ge_iff_le, decide_eq_true_eq, decide_eq_false_iff_not, Bool.not_eq_true', Bool.not_eq_false', Bool.and_eq_true, Bool.or_eq_false_iff, ne_eq, Classical.not_not] at hx); (first | (exfalso; omega) | skip)) | with_reducible refine branch_t ?_ | with_reducible refine branch_f ?_) <;> (try simp (maxSteps := 1000000) (disch := omega) only [push_cast, go_sem, simprocAttr, *]))
    | with_reducible refine cond_split ?_ ?_
    | with_reducible refine guard_split ?_ ?_
    | with_reducible refine still_split ?_ ?_
    | ((with_reducible refine drw_own ?_); simp (maxSteps := 1000000) (disch := omega) only [push_cast, go_sem, simprocAttr, *]; (with_reducible refine drw_id ?_))
    | ((first | with_reducible refine drw_in ?_ | with_reducible refine call_by3 [] (number_f _) ?_) <;> (try simp (maxSteps := 1000000) (disch := omega) only [push_cast, go_sem, simprocAttr, *]))
    | omega)
theorem part_f (s : List UInt8) (f n : Int) : Spec Tryd.prog 70 [.str (ofL s), .int .i64 f, .int .i64 n] (.str (ofL (if n < 1 then [] else (s.drop f.toNat).take n.toNat))) [.str (ofL s), .int .i64 f, .int .i64 n] := by
  refine spec_go Tryd.f70 ?_; simp (maxSteps := 1000000) (disch := omega) only [push_cast, go_sem, simprocAttr, Tryd.f70, *]
  repeat' (first
    | with_reducible refine And.intro ?_ ?_
    | ((first | (with_reducible intro hx; (try simp only [false_dec, true_dec, Int.ofNat_inj, gt_iff_lt, ge_iff_le, decide_eq_true_eq, decide_eq_false_iff_not, Bool.not_eq_true', Bool.not_eq_false', Bool.and_eq_true, Bool.or_eq_false_iff, ne_eq, Classical.not_not] at hx); (first | (exfalso; omega) | skip)) | with_reducible refine branch_t ?_ | with_reducible refine branch_f ?_) <;> (try simp (maxSteps := 1000000) (disch := omega) only [push_cast, go_sem, simprocAttr, *]))
    | with_reducible refine cond_split ?_ ?_
    | with_reducible refine guard_split ?_ ?_
    | with_reducible refine still_split ?_ ?_
    | ((with_reducible refine drw_own ?_); simp (maxSteps := 1000000) (disch := omega) only [push_cast, go_sem, simprocAttr, *]; (with_reducible refine drw_id ?_))
    | ((first | with_reducible refine drw_in ?_) <;> (try simp (maxSteps := 1000000) (disch := omega) only [push_cast, go_sem, simprocAttr, *]))
    | omega)
  · have e1 : (if f < 0 then 0 else f).toNat = f.toNat := by split <;> omega
    rw [e1]
    congr 3
    split
    · rename_i h; rw [List.take_of_length_le (by omega), List.take_of_length_le (by omega)]
    · rfl
  · rw [List.drop_eq_nil_of_le (by revert hx; split <;> omega)]; simp
def inR (n : Int) : Prop := -9223372036854775808 ≤ n ∧ n ≤ 9223372036854775807
/-- What an operation of two numbers comes to. -/
def reckonF (c a b : Int) : ValA × Int :=
  if c = 10 then (vNum (w64 (a + b)), 0) else if c = 11 then (vNum (w64 (a - b)), 0) else if c = 12 then (vNum (w64 (a * b)), 0) else if c = 15 then (vNum (if b < a then b else a), 0) else if c = 16 then (vNum (if a < b then b else a), 0)
  else if b = 0 then (vNone, 44) else if b = -1 then (if c = 13 then (vNum (w64 (0 - a)), 0) else (vNum 0, 0)) else if c = 13 then (vNum (w64 (a.tdiv b)), 0) else (vNum (a.tmod b), 0)
theorem reckon_f (c a b : Int) : Spec Tryd.prog 55 [.int .i64 c, .int .i64 a, .int .i64 b] (.tup [.agg [.int .i64 ((reckonF c a b).1).kind, .int .i64 ((reckonF c a b).1).n, .str (ofL ((reckonF c a b).1).s)], .int .i64 (reckonF c a b).2]) [.int .i64 c, .int .i64 a, .int .i64 b] := by
  refine spec_go Tryd.f55 ?_; simp (maxSteps := 1000000) (disch := omega) only [push_cast, go_sem, simprocAttr, Tryd.f55, *]
  repeat' (first
    | with_reducible refine And.intro ?_ ?_
    | ((first | (with_reducible intro hx; (try simp only [false_dec, true_dec, Int.ofNat_inj, gt_iff_lt, ge_iff_le, decide_eq_true_eq, decide_eq_false_iff_not, Bool.not_eq_true', Bool.not_eq_false', Bool.and_eq_true, Bool.or_eq_false_iff, ne_eq, Classical.not_not] at hx); (first | (exfalso; omega) | skip)) | with_reducible refine branch_t ?_ | with_reducible refine branch_f ?_) <;> (try simp (maxSteps := 1000000) (disch := omega) only [push_cast, go_sem, simprocAttr, *]))
    | with_reducible refine cond_split ?_ ?_
    | with_reducible refine guard_split ?_ ?_
    | with_reducible refine still_split ?_ ?_
    | ((with_reducible refine drw_own ?_); simp (maxSteps := 1000000) (disch := omega) only [push_cast, go_sem, simprocAttr, *]; (with_reducible refine drw_id ?_))
    | ((first | with_reducible refine drw_in ?_ | with_reducible refine call_by3 [] (number_f _) ?_) <;> (try simp (maxSteps := 1000000) (disch := omega) only [push_cast, go_sem, simprocAttr, *]))
    | omega)
  all_goals (unfold reckonF; repeat (first | rw [if_pos (by omega)] | rw [if_neg (by omega)])); rfl
def asNumF (v : ValA) : ValA := if v.kind = 2 then (if (numF v.s).2 = true then vNum (numF v.s).1 else vNone) else v
theorem asnum_f (v : ValA) : Spec Tryd.prog 72 [.agg [.int .i64 v.kind, .int .i64 v.n, .str (ofL v.s)]] (.agg [.int .i64 (asNumF v).kind, .int .i64 (asNumF v).n, .str (ofL (asNumF v).s)]) [.agg [.int .i64 v.kind, .int .i64 v.n, .str (ofL v.s)]] := by
  refine spec_go Tryd.f72 ?_; simp (maxSteps := 1000000) (disch := omega) only [push_cast, go_sem, simprocAttr, Tryd.f72, *]
  repeat' (first
    | with_reducible refine And.intro ?_ ?_
    | ((first | (with_reducible intro hx; (try simp only [false_dec, true_dec, Int.ofNat_inj, gt_iff_lt, ge_iff_le, decide_eq_true_eq, decide_eq_false_iff_not, Bool.not_eq_true', Bool.not_eq_false', Bool.and_eq_true, Bool.or_eq_false_iff, ne_eq, Classical.not_not] at hx); (first | (exfalso; omega) | skip)) | with_reducible refine branch_t ?_ | with_reducible refine branch_f ?_) <;> (try simp (maxSteps := 1000000) (disch := omega) only [push_cast, go_sem, simprocAttr, *]))
    | with_reducible refine cond_split ?_ ?_
    | with_reducible refine guard_split ?_ ?_
    | with_reducible refine still_split ?_ ?_
    | ((with_reducible refine drw_own ?_); simp (maxSteps := 1000000) (disch := omega) only [push_cast, go_sem, simprocAttr, *]; (with_reducible refine drw_id ?_))
    | ((first | with_reducible refine drw_in ?_ | with_reducible refine call_by3 [] (number_f _) ?_ | with_reducible refine call_by3 [] (number_spec _) ?_) <;> (try simp (maxSteps := 1000000) (disch := omega) only [push_cast, go_sem, simprocAttr, *]))
    | omega)
  all_goals simp [asNumF, vNum, vNone, *]
def asTextF (v : ValA) : List UInt8 := if v.kind = 1 then Lib.itoa v.n else v.s
theorem astext_f (v : ValA) (h : inR v.n) : Spec Tryd.prog 73 [.agg [.int .i64 v.kind, .int .i64 v.n, .str (ofL v.s)]] (.str (ofL (asTextF v))) [.agg [.int .i64 v.kind, .int .i64 v.n, .str (ofL v.s)]] := by
  obtain ⟨h0, h1⟩ := h
  refine spec_go Tryd.f73 ?_; simp (maxSteps := 1000000) (disch := omega) only [push_cast, go_sem, simprocAttr, Tryd.f73, *]
  repeat' (first
    | with_reducible refine And.intro ?_ ?_
    | ((first | (with_reducible intro hx; (try simp only [false_dec, true_dec, Int.ofNat_inj, gt_iff_lt, ge_iff_le, decide_eq_true_eq, decide_eq_false_iff_not, Bool.not_eq_true', Bool.not_eq_false', Bool.and_eq_true, Bool.or_eq_false_iff, ne_eq, Classical.not_not] at hx); (first | (exfalso; omega) | skip)) | with_reducible refine branch_t ?_ | with_reducible refine branch_f ?_) <;> (try simp (maxSteps := 1000000) (disch := omega) only [push_cast, go_sem, simprocAttr, *]))
    | with_reducible refine cond_split ?_ ?_
    | with_reducible refine guard_split ?_ ?_
    | with_reducible refine still_split ?_ ?_
    | ((with_reducible refine drw_own ?_); simp (maxSteps := 1000000) (disch := omega) only [push_cast, go_sem, simprocAttr, *]; (with_reducible refine drw_id ?_))
    | ((first | with_reducible refine drw_in ?_ | with_reducible refine call_by3 [] (itoa_spec _ h0 h1) ?_) <;> (try simp (maxSteps := 1000000) (disch := omega) only [push_cast, go_sem, simprocAttr, *]))
    | omega)
  all_goals simp [asTextF, *]
def pieces (s : List UInt8) : List (List UInt8) := (Lib.splitB (ofL [59]) 0 (Lib.countB (ofL s) (ofL [59])) (ofL s)).map (·.data.toList)
def encS (s : List UInt8) : AV := .str (ofL s)
theorem encS_low {r : List UInt8} : low (encS r) = encS r := rfl
theorem encS_cells {r : List UInt8} : cellsOf (encS r) = [.str (ofL r)] := rfl
theorem encS_bd {r : List UInt8} {n : Nat} : Bd n (encS r) = True := by simp [encS, Bd]
theorem encS_noO {r : List UInt8} : NoO (encS r) = True := by simp [encS, NoO]
theorem encS_noF {r : List UInt8} : NoF (encS r) = True := by simp [encS, NoF]
theorem encS_okE {r : List UInt8} : okE 1 (encS r) = True := by simp [encS, okE, cellsOf, allC1, C1]
attribute [push_cast] encS_cells encS_low encS_bd encS_noO encS_noF encS_okE
theorem pieces_spec (s : List UInt8) (hs : s.length ≤ 1024) : Spec Tryd.prog 34 [.str (ofL s), .str (ofL [59])] (.olst 1 ((pieces s).map encS)) [.str (ofL s), .str (ofL [59])] := split_spec s hs
def textsF (c : Int) (a b d : ValA) : ValA × Int :=
  if c = 23 then (if 1024 < a.s.length + b.s.length then (vNone, 7) else (vTxt (a.s ++ b.s), 0)) else if c = 24 then (vNum a.s.length, 0)
  else if c = 25 then (vTxt (if d.n < 1 then [] else (a.s.drop b.n.toNat).take d.n.toNat), 0) else if c = 26 then (vYes (Lib.contains a.s b.s), 0) else if c = 27 then (asNumF a, 0) else if c = 28 then (vTxt (asTextF a), 0)
  else if b.n < 0 ∨ (pieces a.s).length ≤ b.n then (vNone, 0) else (vTxt ((pieces a.s).getD b.n.toNat []), 0)
theorem texts2_f (f : Bool) (c : Int) (a b d : ValA) (hc : c = 23 ∨ c = 26 ∨ c = 29) (ha : a.s.length ≤ 1024) : Spec Tryd.prog 56 [.int .i64 c, .lst f 3 [encV a, encV b]] (.tup [.agg [.int .i64 ((textsF c a b d).1).kind, .int .i64 ((textsF c a b d).1).n, .str (ofL ((textsF c a b d).1).s)], .int .i64 (textsF c a b d).2]) [.int .i64 c, .lst f 3 [encV a, encV b]] := by
  rcases hc with rfl | rfl | rfl
  all_goals
    refine spec_go Tryd.f56 ?_; simp (maxSteps := 1000000) (disch := omega) only [push_cast, go_sem, simprocAttr, Tryd.f56, *]
    repeat' (first
    | with_reducible refine And.intro ?_ ?_
    | ((first | (with_reducible intro hx; (try simp only [false_dec, true_dec, Int.ofNat_inj, gt_iff_lt, ge_iff_le, decide_eq_true_eq, decide_eq_false_iff_not, Bool.not_eq_true', Bool.not_eq_false', Bool.and_eq_true, Bool.or_eq_false_iff, ne_eq, Classical.not_not] at hx); (first | (exfalso; omega) | skip)) | with_reducible refine branch_t ?_ | with_reducible refine branch_f ?_) <;> (try simp (maxSteps := 1000000) (disch := omega) only [push_cast, go_sem, simprocAttr, *]))
    | with_reducible refine cond_split ?_ ?_
    | with_reducible refine guard_split ?_ ?_
    | with_reducible refine still_split ?_ ?_
    | ((with_reducible refine drw_own ?_); simp (maxSteps := 1000000) (disch := omega) only [push_cast, go_sem, simprocAttr, *]; (with_reducible refine drw_id ?_))
    | ((first | with_reducible refine drw_in ?_ | with_reducible refine call_by3 [] (text_f _) ?_ | with_reducible refine call_by3 [] (truth_f _) ?_ | with_reducible refine call_by3 [] (contains_spec _ _ ha) ?_ | with_reducible refine call_by3 [] (pieces_spec _ ha) ?_) <;> (try simp (maxSteps := 1000000) (disch := omega) only [push_cast, go_sem, simprocAttr, *]))
    | omega)
  all_goals (unfold textsF; repeat (first | rw [if_pos (by omega)] | rw [if_neg (by omega)]))
  all_goals first
    | rfl
    | (rw [List.getD_eq_getElem?_getD, List.getElem?_eq_getElem (by omega)]; rfl)
theorem texts1_f (f : Bool) (c : Int) (a b d : ValA) (hc : c = 24 ∨ c = 27 ∨ c = 28) (ha : inR a.n) : Spec Tryd.prog 56 [.int .i64 c, .lst f 3 [encV a]] (.tup [.agg [.int .i64 ((textsF c a b d).1).kind, .int .i64 ((textsF c a b d).1).n, .str (ofL ((textsF c a b d).1).s)], .int .i64 (textsF c a b d).2]) [.int .i64 c, .lst f 3 [encV a]] := by
  rcases hc with rfl | rfl | rfl
  all_goals
    refine spec_go Tryd.f56 ?_; simp (maxSteps := 1000000) (disch := omega) only [push_cast, go_sem, simprocAttr, Tryd.f56, *]
    repeat' (first
    | with_reducible refine And.intro ?_ ?_
    | ((first | (with_reducible intro hx; (try simp only [false_dec, true_dec, Int.ofNat_inj, gt_iff_lt, ge_iff_le, decide_eq_true_eq, decide_eq_false_iff_not, Bool.not_eq_true', Bool.not_eq_false', Bool.and_eq_true, Bool.or_eq_false_iff, ne_eq, Classical.not_not] at hx); (first | (exfalso; omega) | skip)) | with_reducible refine branch_t ?_ | with_reducible refine branch_f ?_) <;> (try simp (maxSteps := 1000000) (disch := omega) only [push_cast, go_sem, simprocAttr, *]))
    | with_reducible refine cond_split ?_ ?_
    | with_reducible refine guard_split ?_ ?_
    | with_reducible refine still_split ?_ ?_
    | ((with_reducible refine drw_own ?_); simp (maxSteps := 1000000) (disch := omega) only [push_cast, go_sem, simprocAttr, *]; (with_reducible refine drw_id ?_))
    | ((first | with_reducible refine drw_in ?_ | with_reducible refine call_by3 [] (text_f _) ?_ | with_reducible refine call_by3 [] (number_f _) ?_ | with_reducible refine call_by3 [] (asnum_f a) ?_ | with_reducible refine call_by3 [] (astext_f a ha) ?_) <;> (try simp (maxSteps := 1000000) (disch := omega) only [push_cast, go_sem, simprocAttr, *]))
    | omega)
  all_goals (unfold textsF; repeat (first | rw [if_pos (by omega)] | rw [if_neg (by omega)]))
  all_goals rfl
theorem texts3_f (f : Bool) (a b d : ValA) : Spec Tryd.prog 56 [.int .i64 25, .lst f 3 [encV a, encV b, encV d]] (.tup [.agg [.int .i64 ((textsF 25 a b d).1).kind, .int .i64 ((textsF 25 a b d).1).n, .str (ofL ((textsF 25 a b d).1).s)], .int .i64 (textsF 25 a b d).2]) [.int .i64 25, .lst f 3 [encV a, encV b, encV d]] := by
  refine spec_go Tryd.f56 ?_; simp (maxSteps := 1000000) (disch := omega) only [push_cast, go_sem, simprocAttr, Tryd.f56, *]
  repeat' (first
    | with_reducible refine And.intro ?_ ?_
    | ((first | (with_reducible intro hx; (try simp only [false_dec, true_dec, Int.ofNat_inj, gt_iff_lt, ge_iff_le, decide_eq_true_eq, decide_eq_false_iff_not, Bool.not_eq_true', Bool.not_eq_false', Bool.and_eq_true, Bool.or_eq_false_iff, ne_eq, Classical.not_not] at hx); (first | (exfalso; omega) | skip)) | with_reducible refine branch_t ?_ | with_reducible refine branch_f ?_) <;> (try simp (maxSteps := 1000000) (disch := omega) only [push_cast, go_sem, simprocAttr, *]))
    | with_reducible refine cond_split ?_ ?_
    | with_reducible refine guard_split ?_ ?_
    | with_reducible refine still_split ?_ ?_
    | ((with_reducible refine drw_own ?_); simp (maxSteps := 1000000) (disch := omega) only [push_cast, go_sem, simprocAttr, *]; (with_reducible refine drw_id ?_))
    | ((first | with_reducible refine drw_in ?_ | with_reducible refine call_by3 [] (text_f _) ?_ | with_reducible refine call_by3 [] (part_f _ _ _) ?_) <;> (try simp (maxSteps := 1000000) (disch := omega) only [push_cast, go_sem, simprocAttr, *]))
    | omega)
  all_goals (unfold textsF; repeat (first | rw [if_pos (by omega)] | rw [if_neg (by omega)]))
  all_goals rfl
end Go.Ev

set_option linter.unusedVariables false
set_option linter.unusedSimpArgs false
namespace Go.Ev
set_option maxRecDepth 100000
set_option maxHeartbeats 0
open Go.Proofs
theorem eqV {a b : ValA} : decide (a = b) = (decide (a.kind = b.kind) && (decide (a.n = b.n) && decide (a.s = b.s))) := by
  rw [Bool.eq_iff_iff]
  simp only [Bool.and_eq_true, decide_eq_true_eq]
  constructor
  · rintro rfl; exact ⟨rfl, rfl, rfl⟩
  · cases a; cases b; rintro ⟨h1, h2, h3⟩; dsimp only at *; subst h1 h2 h3; rfl
/-- What an operation that puts one value comes to. -/
def oneF (c : Int) (a b d : ValA) : ValA × Int :=
  if 10 ≤ c ∧ c ≤ 16 then reckonF c a.n b.n else if 23 ≤ c ∧ c ≤ 29 then textsF c a b d else if c = 17 then (vNum (w64 (0 - a.n)), 0) else if c = 18 then (vYes (decide (a = b)), 0)
  else if c = 19 then (vYes (decide (a.n < b.n) || Go.Op.bytesLess a.s b.s), 0) else if c = 20 then (vYes (decide (a.n ≠ 0) && decide (b.n ≠ 0)), 0) else if c = 21 then (vYes (decide (a.n ≠ 0) || decide (b.n ≠ 0)), 0) else if c = 22 then (vYes (decide (a.n = 0)), 0)
  else if c = 31 then (vYes (decide (a.kind ≠ 0)), 0) else if c = 30 ∧ a.kind = 0 then (b, 0) else if c = 32 ∧ d.n = 0 then (b, 0) else (a, 0)
theorem one2_f (f : Bool) (c : Int) (a b d : ValA) (hc : c = 10 ∨ c = 11 ∨ c = 12 ∨ c = 13 ∨ c = 14 ∨ c = 15 ∨ c = 16 ∨ c = 18 ∨ c = 19 ∨ c = 20 ∨ c = 21 ∨ c = 23 ∨ c = 26 ∨ c = 29 ∨ c = 30) (ha : a.s.length ≤ 1024) : Spec Tryd.prog 46 [.int .i64 c, .lst f 3 [encV a, encV b]] (.tup [.agg [.int .i64 ((oneF c a b d).1).kind, .int .i64 ((oneF c a b d).1).n, .str (ofL ((oneF c a b d).1).s)], .int .i64 (oneF c a b d).2]) [.int .i64 c, .lst f 3 [encV a, encV b]] := by
  rcases hc with rfl | rfl | rfl | rfl | rfl | rfl | rfl | rfl | rfl | rfl | rfl | rfl | rfl | rfl | rfl
  all_goals
    refine spec_go Tryd.f46 ?_; simp (maxSteps := 1000000) (disch := omega) only [push_cast, go_sem, simprocAttr, Tryd.f46, *]
    repeat' (first
    | with_reducible refine And.intro ?_ ?_
    | ((first | (with_reducible intro hx; (try simp only [false_dec, true_dec, Int.ofNat_inj, gt_iff_lt, ge_iff_le, decide_eq_true_eq, decide_eq_false_iff_not, Bool.not_eq_true', Bool.not_eq_false', Bool.and_eq_true, Bool.or_eq_false_iff, ne_eq, Classical.not_not] at hx); (first | (exfalso; omega) | skip)) | with_reducible refine branch_t ?_ | with_reducible refine branch_f ?_) <;> (try simp (maxSteps := 1000000) (disch := omega) only [push_cast, go_sem, simprocAttr, *]))
    | with_reducible refine cond_split ?_ ?_
    | with_reducible refine guard_split ?_ ?_
    | with_reducible refine still_split ?_ ?_
    | ((with_reducible refine drw_own ?_); simp (maxSteps := 1000000) (disch := omega) only [push_cast, go_sem, simprocAttr, *]; (with_reducible refine drw_id ?_))
    | ((first | with_reducible refine drw_plan3 pl46_0 ?_); (try simp (maxSteps := 1000000) (disch := omega) only [push_cast, go_sem, simprocAttr, *]); (fail_if_success (with_reducible change False)))
    | ((first | with_reducible refine drw_in ?_ | with_reducible refine call_by3 [] (truth_f _) ?_ | with_reducible refine call_by3 [] (reckon_f _ _ _) ?_ | with_reducible refine call_by3 [] (texts2_f _ 23 a b d (by decide) ha) ?_ | with_reducible refine call_by3 [] (texts2_f _ 26 a b d (by decide) ha) ?_ | with_reducible refine call_by3 [] (texts2_f _ 29 a b d (by decide) ha) ?_) <;> (try simp (maxSteps := 1000000) (disch := omega) only [push_cast, go_sem, simprocAttr, *]))
    | omega)
  all_goals (unfold oneF; repeat (first | rw [if_pos (by omega)] | rw [if_neg (by omega)]))
  all_goals first
    | rfl
    | (simp [vYes, vNum, w64, eqV, *])
theorem one1_f (f : Bool) (c : Int) (a b d : ValA) (hc : c = 17 ∨ c = 22 ∨ c = 24 ∨ c = 27 ∨ c = 28 ∨ c = 31) (ha : inR a.n) : Spec Tryd.prog 46 [.int .i64 c, .lst f 3 [encV a]] (.tup [.agg [.int .i64 ((oneF c a b d).1).kind, .int .i64 ((oneF c a b d).1).n, .str (ofL ((oneF c a b d).1).s)], .int .i64 (oneF c a b d).2]) [.int .i64 c, .lst f 3 [encV a]] := by
  rcases hc with rfl | rfl | rfl | rfl | rfl | rfl
  all_goals
    refine spec_go Tryd.f46 ?_; simp (maxSteps := 1000000) (disch := omega) only [push_cast, go_sem, simprocAttr, Tryd.f46, *]
    repeat' (first
    | with_reducible refine And.intro ?_ ?_
    | ((first | (with_reducible intro hx; (try simp only [false_dec, true_dec, Int.ofNat_inj, gt_iff_lt, ge_iff_le, decide_eq_true_eq, decide_eq_false_iff_not, Bool.not_eq_true', Bool.not_eq_false', Bool.and_eq_true, Bool.or_eq_false_iff, ne_eq, Classical.not_not] at hx); (first | (exfalso; omega) | skip)) | with_reducible refine branch_t ?_ | with_reducible refine branch_f ?_) <;> (try simp (maxSteps := 1000000) (disch := omega) only [push_cast, go_sem, simprocAttr, *]))
    | with_reducible refine cond_split ?_ ?_
    | with_reducible refine guard_split ?_ ?_
    | with_reducible refine still_split ?_ ?_
    | ((with_reducible refine drw_own ?_); simp (maxSteps := 1000000) (disch := omega) only [push_cast, go_sem, simprocAttr, *]; (with_reducible refine drw_id ?_))
    | ((first | with_reducible refine drw_plan3 pl46_0 ?_); (try simp (maxSteps := 1000000) (disch := omega) only [push_cast, go_sem, simprocAttr, *]); (fail_if_success (with_reducible change False)))
    | ((first | with_reducible refine drw_in ?_ | with_reducible refine call_by3 [] (truth_f _) ?_ | with_reducible refine call_by3 [] (number_f _) ?_ | with_reducible refine call_by3 [] (texts1_f _ 24 a b d (by decide) ha) ?_ | with_reducible refine call_by3 [] (texts1_f _ 27 a b d (by decide) ha) ?_ | with_reducible refine call_by3 [] (texts1_f _ 28 a b d (by decide) ha) ?_) <;> (try simp (maxSteps := 1000000) (disch := omega) only [push_cast, go_sem, simprocAttr, *]))
    | omega)
  all_goals (unfold oneF; repeat (first | rw [if_pos (by omega)] | rw [if_neg (by omega)]))
  all_goals first
    | rfl
    | (simp [vYes, vNum, w64, eqV, *])
theorem one3_f (f : Bool) (c : Int) (a b d : ValA) (hc : c = 25 ∨ c = 32) : Spec Tryd.prog 46 [.int .i64 c, .lst f 3 [encV a, encV b, encV d]] (.tup [.agg [.int .i64 ((oneF c a b d).1).kind, .int .i64 ((oneF c a b d).1).n, .str (ofL ((oneF c a b d).1).s)], .int .i64 (oneF c a b d).2]) [.int .i64 c, .lst f 3 [encV a, encV b, encV d]] := by
  rcases hc with rfl | rfl
  all_goals
    refine spec_go Tryd.f46 ?_; simp (maxSteps := 1000000) (disch := omega) only [push_cast, go_sem, simprocAttr, Tryd.f46, *]
    repeat' (first
    | with_reducible refine And.intro ?_ ?_
    | ((first | (with_reducible intro hx; (try simp only [false_dec, true_dec, Int.ofNat_inj, gt_iff_lt, ge_iff_le, decide_eq_true_eq, decide_eq_false_iff_not, Bool.not_eq_true', Bool.not_eq_false', Bool.and_eq_true, Bool.or_eq_false_iff, ne_eq, Classical.not_not] at hx); (first | (exfalso; omega) | skip)) | with_reducible refine branch_t ?_ | with_reducible refine branch_f ?_) <;> (try simp (maxSteps := 1000000) (disch := omega) only [push_cast, go_sem, simprocAttr, *]))
    | with_reducible refine cond_split ?_ ?_
    | with_reducible refine guard_split ?_ ?_
    | with_reducible refine still_split ?_ ?_
    | ((with_reducible refine drw_own ?_); simp (maxSteps := 1000000) (disch := omega) only [push_cast, go_sem, simprocAttr, *]; (with_reducible refine drw_id ?_))
    | ((first | with_reducible refine drw_plan3 pl46_0 ?_); (try simp (maxSteps := 1000000) (disch := omega) only [push_cast, go_sem, simprocAttr, *]); (fail_if_success (with_reducible change False)))
    | ((first | with_reducible refine drw_in ?_ | with_reducible refine call_by3 [] (texts3_f _ a b d) ?_) <;> (try simp (maxSteps := 1000000) (disch := omega) only [push_cast, go_sem, simprocAttr, *]))
    | omega)
  all_goals (unfold oneF; repeat (first | rw [if_pos (by omega)] | rw [if_neg (by omega)]))
  all_goals first
    | rfl
    | (simp [vYes, vNum, w64, eqV, *])
end Go.Ev

set_option linter.unusedVariables false
set_option linter.unusedSimpArgs false
namespace Go.Ev
set_option maxRecDepth 100000
set_option maxHeartbeats 0
open Go.Proofs

structure InA where
  key : List UInt8
  value : ValA
  time : Int
  now : Int
  old : ValA
  side : ValA
abbrev inC (i : InA) : List AV := [.str (ofL i.key), .int .i64 i.value.kind, .int .i64 i.value.n, .str (ofL i.value.s), .int .i64 i.time, .int .i64 i.now, .int .i64 i.old.kind, .int .i64 i.old.n, .str (ofL i.old.s), .int .i64 i.side.kind, .int .i64 i.side.n, .str (ofL i.side.s)]
/-- What an operation puts, and why not. -/
def doesF (i : InA) (o : OpA) (a b d : ValA) : List ValA × Int :=
  if o.code = 1 then ([vNum o.n], 0) else if o.code = 2 then ([vTxt o.s], 0) else if o.code = 3 then ([vNone], 0) else if o.code = 4 then ([vTxt i.key], 0) else if o.code = 5 then ([i.value], 0) else if o.code = 6 then ([vNum i.time], 0)
  else if o.code = 7 then ([vNum i.now], 0) else if o.code = 8 then ([i.old], 0) else if o.code = 9 then ([i.side], 0) else if o.code = 33 then ([a, a], 0) else if o.code = 34 then ([b, a], 0) else if o.code = 35 ∨ o.code = 36 ∨ o.code = 37 then ([], 0)
  else ([(oneF o.code a b d).1], (oneF o.code a b d).2)
theorem does0_f (f : Bool) (i : InA) (o : OpA) (st : List ValA) (at_ : Int) (a b d : ValA) (hc : o.code = 1 ∨ o.code = 2 ∨ o.code = 3 ∨ o.code = 4 ∨ o.code = 5 ∨ o.code = 6 ∨ o.code = 7 ∨ o.code = 8 ∨ o.code = 9 ∨ o.code = 36) :
    Spec Tryd.prog 33 [.fz (inC i ++ [.lst false 3 (st.map encV), .int .i64 at_]), .agg [.int .i64 o.code, .int .i64 o.n, .str (ofL o.s)], .lst f 3 []] (.tup [.olst 3 ((doesF i o a b d).1.map encV), .int .i64 (doesF i o a b d).2]) [.fz (inC i ++ [.lst false 3 (st.map encV), .int .i64 at_]), .agg [.int .i64 o.code, .int .i64 o.n, .str (ofL o.s)], .lst f 3 []] := by
  rcases hc with h | h | h | h | h | h | h | h | h | h
  all_goals
    refine spec_go Tryd.f33 ?_; simp (maxSteps := 1000000) (disch := omega) only [push_cast, go_sem, simprocAttr, Tryd.f33, *]
    repeat' (first
    | with_reducible refine And.intro ?_ ?_
    | ((first | (with_reducible intro hx; (try simp only [false_dec, true_dec, Int.ofNat_inj, gt_iff_lt, ge_iff_le, decide_eq_true_eq, decide_eq_false_iff_not, Bool.not_eq_true', Bool.not_eq_false', Bool.and_eq_true, Bool.or_eq_false_iff, ne_eq, Classical.not_not] at hx); (first | (exfalso; omega) | skip)) | with_reducible refine branch_t ?_ | with_reducible refine branch_f ?_) <;> (try simp (maxSteps := 1000000) (disch := omega) only [push_cast, go_sem, simprocAttr, *]))
    | with_reducible refine cond_split ?_ ?_
    | with_reducible refine guard_split ?_ ?_
    | with_reducible refine still_split ?_ ?_
    | ((with_reducible refine drw_own ?_); simp (maxSteps := 1000000) (disch := omega) only [push_cast, go_sem, simprocAttr, *]; (with_reducible refine drw_id ?_))
    | ((first | with_reducible refine drw_in ?_ | with_reducible refine call_by3 [] (text_f _) ?_ | with_reducible refine call_by3 [] (number_f _) ?_) <;> (try simp (maxSteps := 1000000) (disch := omega) only [push_cast, go_sem, simprocAttr, *]))
    | omega)
  all_goals (unfold doesF; repeat (first | rw [if_pos (by omega)] | rw [if_neg (by omega)]))
  all_goals first
    | rfl
    | (rw [h]; rfl)
theorem does1_f (f : Bool) (i : InA) (o : OpA) (st : List ValA) (at_ : Int) (a b d : ValA) (hc : o.code = 17 ∨ o.code = 22 ∨ o.code = 24 ∨ o.code = 27 ∨ o.code = 28 ∨ o.code = 31 ∨ o.code = 33 ∨ o.code = 35 ∨ o.code = 37) (ha : inR a.n) :
    Spec Tryd.prog 33 [.fz (inC i ++ [.lst false 3 (st.map encV), .int .i64 at_]), .agg [.int .i64 o.code, .int .i64 o.n, .str (ofL o.s)], .lst f 3 [encV a]] (.tup [.olst 3 ((doesF i o a b d).1.map encV), .int .i64 (doesF i o a b d).2]) [.fz (inC i ++ [.lst false 3 (st.map encV), .int .i64 at_]), .agg [.int .i64 o.code, .int .i64 o.n, .str (ofL o.s)], .lst f 3 [encV a]] := by
  rcases hc with h | h | h | h | h | h | h | h | h
  all_goals
    refine spec_go Tryd.f33 ?_; simp (maxSteps := 1000000) (disch := omega) only [push_cast, go_sem, simprocAttr, Tryd.f33, *]
    repeat' (first
    | with_reducible refine And.intro ?_ ?_
    | ((first | (with_reducible intro hx; (try simp only [false_dec, true_dec, Int.ofNat_inj, gt_iff_lt, ge_iff_le, decide_eq_true_eq, decide_eq_false_iff_not, Bool.not_eq_true', Bool.not_eq_false', Bool.and_eq_true, Bool.or_eq_false_iff, ne_eq, Classical.not_not] at hx); (first | (exfalso; omega) | skip)) | with_reducible refine branch_t ?_ | with_reducible refine branch_f ?_) <;> (try simp (maxSteps := 1000000) (disch := omega) only [push_cast, go_sem, simprocAttr, *]))
    | with_reducible refine cond_split ?_ ?_
    | with_reducible refine guard_split ?_ ?_
    | with_reducible refine still_split ?_ ?_
    | ((with_reducible refine drw_own ?_); simp (maxSteps := 1000000) (disch := omega) only [push_cast, go_sem, simprocAttr, *]; (with_reducible refine drw_id ?_))
    | ((first | with_reducible refine drw_in ?_ | with_reducible refine call_by3 [] (one1_f _ o.code a b d (by omega) ha) ?_) <;> (try simp (maxSteps := 1000000) (disch := omega) only [push_cast, go_sem, simprocAttr, *]))
    | omega)
  all_goals (unfold doesF; repeat (first | rw [if_pos (by omega)] | rw [if_neg (by omega)]))
  all_goals first
    | rfl
    | (rw [h]; rfl)
theorem does2_f (f : Bool) (i : InA) (o : OpA) (st : List ValA) (at_ : Int) (a b d : ValA) (hc : o.code = 10 ∨ o.code = 11 ∨ o.code = 12 ∨ o.code = 13 ∨ o.code = 14 ∨ o.code = 15 ∨ o.code = 16 ∨ o.code = 18 ∨ o.code = 19 ∨ o.code = 20 ∨ o.code = 21 ∨ o.code = 23 ∨ o.code = 26 ∨ o.code = 29 ∨ o.code = 30 ∨ o.code = 34) (ha : a.s.length ≤ 1024) :
    Spec Tryd.prog 33 [.fz (inC i ++ [.lst false 3 (st.map encV), .int .i64 at_]), .agg [.int .i64 o.code, .int .i64 o.n, .str (ofL o.s)], .lst f 3 [encV a, encV b]] (.tup [.olst 3 ((doesF i o a b d).1.map encV), .int .i64 (doesF i o a b d).2]) [.fz (inC i ++ [.lst false 3 (st.map encV), .int .i64 at_]), .agg [.int .i64 o.code, .int .i64 o.n, .str (ofL o.s)], .lst f 3 [encV a, encV b]] := by
  rcases hc with h | h | h | h | h | h | h | h | h | h | h | h | h | h | h | h
  all_goals
    refine spec_go Tryd.f33 ?_; simp (maxSteps := 1000000) (disch := omega) only [push_cast, go_sem, simprocAttr, Tryd.f33, *]
    repeat' (first
    | with_reducible refine And.intro ?_ ?_
    | ((first | (with_reducible intro hx; (try simp only [false_dec, true_dec, Int.ofNat_inj, gt_iff_lt, ge_iff_le, decide_eq_true_eq, decide_eq_false_iff_not, Bool.not_eq_true', Bool.not_eq_false', Bool.and_eq_true, Bool.or_eq_false_iff, ne_eq, Classical.not_not] at hx); (first | (exfalso; omega) | skip)) | with_reducible refine branch_t ?_ | with_reducible refine branch_f ?_) <;> (try simp (maxSteps := 1000000) (disch := omega) only [push_cast, go_sem, simprocAttr, *]))
    | with_reducible refine cond_split ?_ ?_
    | with_reducible refine guard_split ?_ ?_
    | with_reducible refine still_split ?_ ?_
    | ((with_reducible refine drw_own ?_); simp (maxSteps := 1000000) (disch := omega) only [push_cast, go_sem, simprocAttr, *]; (with_reducible refine drw_id ?_))
    | ((first | with_reducible refine drw_in ?_ | with_reducible refine call_by3 [] (one2_f _ o.code a b d (by omega) ha) ?_) <;> (try simp (maxSteps := 1000000) (disch := omega) only [push_cast, go_sem, simprocAttr, *]))
    | omega)
  all_goals (unfold doesF; repeat (first | rw [if_pos (by omega)] | rw [if_neg (by omega)]))
  all_goals first
    | rfl
    | (rw [h]; rfl)
theorem does3_f (f : Bool) (i : InA) (o : OpA) (st : List ValA) (at_ : Int) (a b d : ValA) (hc : o.code = 25 ∨ o.code = 32) :
    Spec Tryd.prog 33 [.fz (inC i ++ [.lst false 3 (st.map encV), .int .i64 at_]), .agg [.int .i64 o.code, .int .i64 o.n, .str (ofL o.s)], .lst f 3 [encV a, encV b, encV d]] (.tup [.olst 3 ((doesF i o a b d).1.map encV), .int .i64 (doesF i o a b d).2]) [.fz (inC i ++ [.lst false 3 (st.map encV), .int .i64 at_]), .agg [.int .i64 o.code, .int .i64 o.n, .str (ofL o.s)], .lst f 3 [encV a, encV b, encV d]] := by
  rcases hc with h | h
  all_goals
    refine spec_go Tryd.f33 ?_; simp (maxSteps := 1000000) (disch := omega) only [push_cast, go_sem, simprocAttr, Tryd.f33, *]
    repeat' (first
    | with_reducible refine And.intro ?_ ?_
    | ((first | (with_reducible intro hx; (try simp only [false_dec, true_dec, Int.ofNat_inj, gt_iff_lt, ge_iff_le, decide_eq_true_eq, decide_eq_false_iff_not, Bool.not_eq_true', Bool.not_eq_false', Bool.and_eq_true, Bool.or_eq_false_iff, ne_eq, Classical.not_not] at hx); (first | (exfalso; omega) | skip)) | with_reducible refine branch_t ?_ | with_reducible refine branch_f ?_) <;> (try simp (maxSteps := 1000000) (disch := omega) only [push_cast, go_sem, simprocAttr, *]))
    | with_reducible refine cond_split ?_ ?_
    | with_reducible refine guard_split ?_ ?_
    | with_reducible refine still_split ?_ ?_
    | ((with_reducible refine drw_own ?_); simp (maxSteps := 1000000) (disch := omega) only [push_cast, go_sem, simprocAttr, *]; (with_reducible refine drw_id ?_))
    | ((first | with_reducible refine drw_in ?_ | with_reducible refine call_by3 [] (one3_f _ o.code a b d (by omega)) ?_) <;> (try simp (maxSteps := 1000000) (disch := omega) only [push_cast, go_sem, simprocAttr, *]))
    | omega)
  all_goals (unfold doesF; repeat (first | rw [if_pos (by omega)] | rw [if_neg (by omega)]))
  all_goals first
    | rfl
    | (rw [h]; rfl)
end Go.Ev

set_option linter.unusedVariables false
set_option linter.unusedSimpArgs false
namespace Go.Ev
set_option maxRecDepth 100000
set_option maxHeartbeats 0
open Go.Proofs
theorem takes_len {c : Int} (h : 1 ≤ c ∧ c ≤ 37) : ((takesL c).length = 0 ∧ (c = 1 ∨ c = 2 ∨ c = 3 ∨ c = 4 ∨ c = 5 ∨ c = 6 ∨ c = 7 ∨ c = 8 ∨ c = 9 ∨ c = 36)) ∨ ((takesL c).length = 1 ∧ (c = 17 ∨ c = 22 ∨ c = 24 ∨ c = 27 ∨ c = 28 ∨ c = 31 ∨ c = 33 ∨ c = 35 ∨ c = 37)) ∨ ((takesL c).length = 2 ∧ (c = 10 ∨ c = 11 ∨ c = 12 ∨ c = 13 ∨ c = 14 ∨ c = 15 ∨ c = 16 ∨ c = 18 ∨ c = 19 ∨ c = 20 ∨ c = 21 ∨ c = 23 ∨ c = 26 ∨ c = 29 ∨ c = 30 ∨ c = 34)) ∨ ((takesL c).length = 3 ∧ (c = 25 ∨ c = 32)) := by
  unfold takesL
  by_cases h1 : 10 ≤ c ∧ c ≤ 16 ∨ c = 20 ∨ c = 21
  · rw [if_pos h1]; exact .inr (.inr (.inl ⟨rfl, by omega⟩))
  rw [if_neg h1]
  by_cases h2 : c = 17 ∨ c = 22 ∨ c = 37
  · rw [if_pos h2]; exact .inr (.inl ⟨rfl, by omega⟩)
  rw [if_neg h2]
  by_cases h3 : c = 18 ∨ c = 30 ∨ c = 34
  · rw [if_pos h3]; exact .inr (.inr (.inl ⟨rfl, by omega⟩))
  rw [if_neg h3]
  by_cases h4 : c = 19
  · rw [if_pos h4]; exact .inr (.inr (.inl ⟨rfl, by omega⟩))
  rw [if_neg h4]
  by_cases h5 : c = 23 ∨ c = 26
  · rw [if_pos h5]; exact .inr (.inr (.inl ⟨rfl, by omega⟩))
  rw [if_neg h5]
  by_cases h6 : c = 24
  · rw [if_pos h6]; exact .inr (.inl ⟨rfl, by omega⟩)
  rw [if_neg h6]
  by_cases h7 : c = 25
  · rw [if_pos h7]; exact .inr (.inr (.inr ⟨rfl, by omega⟩))
  rw [if_neg h7]
  by_cases h8 : c = 29
  · rw [if_pos h8]; exact .inr (.inr (.inl ⟨rfl, by omega⟩))
  rw [if_neg h8]
  by_cases h9 : c = 27 ∨ c = 28 ∨ c = 31 ∨ c = 33 ∨ c = 35
  · rw [if_pos h9]; exact .inr (.inl ⟨rfl, by omega⟩)
  rw [if_neg h9]
  by_cases h10 : c = 32
  · rw [if_pos h10]; exact .inr (.inr (.inr ⟨rfl, by omega⟩))
  rw [if_neg h10]
  exact .inl ⟨rfl, by omega⟩
theorem len_two {α : Type} {l : List α} (h : l.length = 2) : ∃ a b, l = [a, b] := by
  match l, h with
  | [a, b], _ => exact ⟨a, b, rfl⟩
theorem len_three {α : Type} {l : List α} (h : l.length = 3) : ∃ a b c, l = [a, b, c] := by
  match l, h with
  | [a, b, c], _ => exact ⟨a, b, c, rfl⟩
def okV (v : ValA) : Prop := mayL v = true ∧ inR v.n
theorem okV_len {v : ValA} (h : okV v) : v.s.length ≤ 1024 := by
  have := h.1
  simp only [mayL, Bool.or_eq_true, decide_eq_true_eq] at this
  rcases this with (⟨_, _, h⟩ | ⟨_, h⟩) | ⟨_, _, h⟩
  · rw [h]; simp
  · rw [h]; simp
  · exact h
def doesL (i : InA) (o : OpA) (l : List ValA) : List ValA × Int := doesF i o (l.getD 0 vNone) (l.getD 1 vNone) (l.getD 2 vNone)
theorem does_f (f : Bool) (i : InA) (o : OpA) (st : List ValA) (at_ : Int) (l : List ValA) (hl : l.length = (takesL o.code).length) (hc : 1 ≤ o.code ∧ o.code ≤ 37) (hg : ∀ v ∈ l, okV v) :
    Spec Tryd.prog 33 [.fz (inC i ++ [.lst false 3 (st.map encV), .int .i64 at_]), .agg [.int .i64 o.code, .int .i64 o.n, .str (ofL o.s)], .lst f 3 (l.map encV)] (.tup [.olst 3 ((doesL i o l).1.map encV), .int .i64 (doesL i o l).2]) [.fz (inC i ++ [.lst false 3 (st.map encV), .int .i64 at_]), .agg [.int .i64 o.code, .int .i64 o.n, .str (ofL o.s)], .lst f 3 (l.map encV)] := by
  rcases takes_len hc with ⟨h1, h2⟩ | ⟨h1, h2⟩ | ⟨h1, h2⟩ | ⟨h1, h2⟩
  · obtain rfl := List.length_eq_zero_iff.1 (hl.trans h1)
    exact does0_f f i o st at_ _ _ _ h2
  · obtain ⟨a, rfl⟩ := List.length_eq_one_iff.1 (hl.trans h1)
    exact does1_f f i o st at_ _ _ _ h2 (hg a (by simp)).2
  · obtain ⟨a, b, rfl⟩ := len_two (hl.trans h1)
    exact does2_f f i o st at_ _ _ _ h2 (okV_len (hg a (by simp)))
  · obtain ⟨a, b, d, rfl⟩ := len_three (hl.trans h1)
    exact does3_f f i o st at_ _ _ _ h2
/-- One operation: what comes of a stack and a place; an error. lo, l: the stack's lower part, and what is taken. -/
def stepL (i : InA) (o : OpA) (lo l : List ValA) (at_ : Int) : List ValA × Int × Int :=
  if fitsL l (takesL o.code) = false then (lo ++ l, at_, 42) else if (doesL i o l).2 ≠ 0 then (lo ++ l, at_, (doesL i o l).2) else if 32 < lo.length + (doesL i o l).1.length then (lo ++ l, at_, 43)
  else (lo ++ (doesL i o l).1, if o.code = 36 ∨ o.code = 37 ∧ (l.getD 0 vNone).n ≠ 0 then o.n else at_ + 1, 0)
theorem step_short (i : InA) (o : OpA) (st : List ValA) (at_ : Int) (h : st.length < (takesL o.code).length) :
    Spec Tryd.prog 23 [.optr (.agg (inC i ++ [.olst 3 (st.map encV), .int .i64 at_])) 0, .agg [.int .i64 o.code, .int .i64 o.n, .str (ofL o.s)]] (.int .i64 43) [.optr (.agg (inC i ++ [.olst 3 (st.map encV), .int .i64 at_])) 0, .agg [.int .i64 o.code, .int .i64 o.n, .str (ofL o.s)]] := by
  refine spec_go Tryd.f23 ?_; simp (maxSteps := 1000000) (disch := omega) only [push_cast, go_sem, simprocAttr, Tryd.f23, *]
  repeat' (first
    | with_reducible refine And.intro ?_ ?_
    | ((first | (with_reducible intro hx; (try simp only [false_dec, true_dec, Int.ofNat_inj, gt_iff_lt, ge_iff_le, decide_eq_true_eq, decide_eq_false_iff_not, Bool.not_eq_true', Bool.not_eq_false', Bool.and_eq_true, Bool.or_eq_false_iff, ne_eq, Classical.not_not] at hx); (first | (exfalso; omega) | skip)) | with_reducible refine branch_t ?_ | with_reducible refine branch_f ?_) <;> (try simp (maxSteps := 1000000) (disch := omega) only [push_cast, go_sem, simprocAttr, *]))
    | with_reducible refine cond_split ?_ ?_
    | with_reducible refine guard_split ?_ ?_
    | with_reducible refine still_split ?_ ?_
    | ((with_reducible refine drw_own ?_); simp (maxSteps := 1000000) (disch := omega) only [push_cast, go_sem, simprocAttr, *]; (with_reducible refine drw_id ?_))
    | ((first | with_reducible refine drw_in ?_ | with_reducible refine call_by3 [] (takes_spec _) ?_) <;> (try simp (maxSteps := 1000000) (disch := omega) only [push_cast, go_sem, simprocAttr, *]))
    | omega)
theorem get_mid {α : Type} {lo l : List α} : (lo ++ l)[lo.length]? = l[0]? := by rw [List.getElem?_append_right (Nat.le_refl _), Nat.sub_self]
attribute [push_cast] get_mid Int.add_sub_cancel List.drop_left List.take_left Nat.add_sub_cancel_left Nat.add_sub_cancel List.map_eq_nil_iff
theorem step_f (i : InA) (o : OpA) (lo l : List ValA) (at_ : Int) (hl : l.length = (takesL o.code).length) (hc : 1 ≤ o.code ∧ o.code ≤ 37) (hg : ∀ v ∈ l, okV v) (hst : lo.length ≤ 32) (hat : 0 ≤ at_ ∧ at_ ≤ 64) (hw : o.code = 37 → 0 < l.length) :
    Spec Tryd.prog 23 [.optr (.agg (inC i ++ [.olst 3 ((lo ++ l).map encV), .int .i64 at_])) 0, .agg [.int .i64 o.code, .int .i64 o.n, .str (ofL o.s)]] (.int .i64 (stepL i o lo l at_).2.2) [.optr (.agg (inC i ++ [.olst 3 ((stepL i o lo l at_).1.map encV), .int .i64 (stepL i o lo l at_).2.1])) 0, .agg [.int .i64 o.code, .int .i64 o.n, .str (ofL o.s)]] := by
  have hd := does_f false i o (lo ++ l) at_ l hl hc hg
  have ht := takes_spec o.code
  have hf := fits_spec false l (takesL o.code) hl
  unfold stepL
  generalize takesL o.code = K at *
  generalize doesL i o l = R at *
  have hl' := hl.symm
  clear hl hg
  by_cases hR0 : R.1 = []
  all_goals
    refine spec_go Tryd.f23 ?_; simp (maxSteps := 1000000) (disch := omega) only [push_cast, go_sem, simprocAttr, Tryd.f23, *]
    repeat' (first
    | with_reducible refine And.intro ?_ ?_
    | ((first | (with_reducible intro hx; (try simp only [false_dec, true_dec, Int.ofNat_inj, gt_iff_lt, ge_iff_le, decide_eq_true_eq, decide_eq_false_iff_not, Bool.not_eq_true', Bool.not_eq_false', Bool.and_eq_true, Bool.or_eq_false_iff, ne_eq, Classical.not_not] at hx); (first | (exfalso; omega) | skip)) | with_reducible refine branch_t ?_ | with_reducible refine branch_f ?_) <;> (try simp (maxSteps := 1000000) (disch := omega) only [push_cast, go_sem, simprocAttr, *]))
    | with_reducible refine cond_split ?_ ?_
    | with_reducible refine guard_split ?_ ?_
    | with_reducible refine still_split ?_ ?_
    | ((with_reducible refine drw_own ?_); simp (maxSteps := 1000000) (disch := omega) only [push_cast, go_sem, simprocAttr, *]; (with_reducible refine drw_id ?_))
    | ((first | with_reducible refine drw_in ?_ | with_reducible refine call_by3 [] (ht) ?_ | with_reducible refine call_by3 [] (hf) ?_ | with_reducible refine call_by3 [] (hd) ?_) <;> (try simp (maxSteps := 1000000) (disch := omega) only [push_cast, go_sem, simprocAttr, *]))
    | omega)
  all_goals try have h0 : l.getD 0 vNone = l[0] := by rw [List.getD_eq_getElem?_getD, List.getElem?_eq_getElem (by omega)]; rfl
  all_goals try rw [h0]
  all_goals try simp only [*, if_true, if_false, ne_eq, not_true_eq_false, not_false_eq_true, Bool.true_eq_false, Bool.false_eq_true]
  all_goals repeat (first | rw [if_pos (by omega)] | rw [if_neg (by omega)])
  all_goals trace_state
end Go.Ev

set_option linter.unusedVariables false
set_option linter.unusedSimpArgs false
namespace Go.Ev
open Go.Proofs
theorem inR_wrap (n : Int) : inR (w64 n) := by
  show -9223372036854775808 ≤ IntKind.i64.wrap n ∧ IntKind.i64.wrap n ≤ 9223372036854775807
  rw [IntKind.wrap_i64]; omega
theorem ok_num {n : Int} (h : inR n) : okV (vNum n) := ⟨by simp [mayL, vNum], h⟩
theorem ok_none : okV vNone := ⟨by simp [mayL, vNone], by simp [vNone, inR]⟩
theorem ok_txt {s : List UInt8} (h : s.length ≤ 1024) : okV (vTxt s) := ⟨by simp [mayL, vTxt, h], by simp [vTxt, inR]⟩
theorem ok_yes (b : Bool) : okV (vYes b) := ⟨by simp [mayL, vYes], by cases b <;> simp [vYes, inR]⟩
theorem inR_tmod {a b : Int} (h : inR a) : inR (a.tmod b) := by
  have h1 : (a.tmod b).natAbs ≤ a.natAbs := by rw [Int.natAbs_tmod]; exact Nat.mod_le _ _
  have h2 : 0 ≤ a → 0 ≤ a.tmod b := fun h => Int.tmod_nonneg b h
  have h3 : a ≤ 0 → a.tmod b ≤ 0 := fun h => by have := Int.tmod_nonneg b (a := -a) (by omega); rw [Int.neg_tmod] at this; omega
  unfold inR at *; omega
theorem numF_ok (s : List UInt8) : inR (numF s).1 := by
  unfold numF
  split
  · rename_i v hv
    have := Lib.parseIntB_bounds hv
    split
    · unfold inR; dsimp only; omega
    · exact ⟨by decide, by decide⟩
  · exact ⟨by decide, by decide⟩
theorem reckon_ok {c a b : Int} (ha : inR a) (hb : inR b) : okV (reckonF c a b).1 := by
  unfold reckonF
  have hm1 : inR (if b < a then b else a) := by split <;> assumption
  have hm2 : inR (if a < b then b else a) := by split <;> assumption
  repeat' split
  all_goals first
    | exact ok_none
    | exact ok_num (inR_wrap _)
    | exact ok_num (by unfold inR; omega)
    | exact ok_num (inR_tmod ha)
    | (refine ok_num ?_; assumption)
    | (exact ok_num ha)
    | (exact ok_num hb)
theorem asNum_ok {v : ValA} (h : okV v) : okV (asNumF v) := by
  unfold asNumF
  split
  · split
    · exact ok_num (numF_ok _)
    · exact ok_none
  · exact h
theorem asText_ok {v : ValA} (h : okV v) : (asTextF v).length ≤ 1024 := by
  unfold asTextF
  split
  · have := Lib.itoa_length_le v.n h.2.1 h.2.2; omega
  · exact okV_len h
theorem piece_len {s x : List UInt8} (h : x ∈ pieces s) : x.length ≤ s.length := by
  unfold pieces at h
  obtain ⟨b, hb, rfl⟩ := List.mem_map.1 h
  have := splitB_sizes _ _ _ b hb
  have h4 : (ofL s).size = s.length := rfl
  rw [h4] at this
  simpa using this
theorem texts_ok {c : Int} {a b d : ValA} (ha : okV a) (hb : okV b) (hd : okV d) : okV (textsF c a b d).1 := by
  have hl := okV_len ha
  unfold textsF
  by_cases h1 : c = 23
  · rw [if_pos h1]
    split
    · exact ok_none
    · exact ok_txt (by rw [List.length_append]; omega)
  rw [if_neg h1]
  by_cases h2 : c = 24
  · rw [if_pos h2]; exact ok_num (by unfold inR; omega)
  rw [if_neg h2]
  by_cases h3 : c = 25
  · rw [if_pos h3]
    refine ok_txt ?_
    split
    · simp
    · simp; omega
  rw [if_neg h3]
  by_cases h4 : c = 26
  · rw [if_pos h4]; exact ok_yes _
  rw [if_neg h4]
  by_cases h5 : c = 27
  · rw [if_pos h5]; exact asNum_ok ha
  rw [if_neg h5]
  by_cases h6 : c = 28
  · rw [if_pos h6]; exact ok_txt (asText_ok ha)
  rw [if_neg h6]
  split
  · exact ok_none
  · rename_i h
    have hk : b.n.toNat < (pieces a.s).length := by omega
    rw [List.getD_eq_getElem?_getD, List.getElem?_eq_getElem hk]
    refine ok_txt ?_
    have := piece_len (List.getElem_mem hk)
    exact Nat.le_trans this hl
theorem one_ok {c : Int} {a b d : ValA} (ha : okV a) (hb : okV b) (hd : okV d) : okV (oneF c a b d).1 := by
  unfold oneF
  split
  · exact reckon_ok ha.2 hb.2
  split
  · exact texts_ok ha hb hd
  repeat' split
  all_goals first
    | exact ok_num (inR_wrap _)
    | exact ok_yes _
    | exact ha
    | exact hb
structure InOk (i : InA) : Prop where
  key : i.key.length ≤ 1024
  value : okV i.value
  old : okV i.old
  side : okV i.side
  time : inR i.time
  now : inR i.now
theorem does_ok {i : InA} {o : OpA} {a b d : ValA} (hi : InOk i) (hn : inR o.n) (hs : o.s.length ≤ 1024) (ha : okV a) (hb : okV b) (hd : okV d) : ∀ v ∈ (doesF i o a b d).1, okV v := by
  unfold doesF
  by_cases h0 : o.code = 1
  · rw [if_pos h0]; exact (by rintro v hv; rcases List.mem_singleton.1 hv with rfl; exact ok_num hn)
  rw [if_neg h0]
  by_cases h1 : o.code = 2
  · rw [if_pos h1]; exact (by rintro v hv; rcases List.mem_singleton.1 hv with rfl; exact ok_txt hs)
  rw [if_neg h1]
  by_cases h2 : o.code = 3
  · rw [if_pos h2]; exact (by rintro v hv; rcases List.mem_singleton.1 hv with rfl; exact ok_none)
  rw [if_neg h2]
  by_cases h3 : o.code = 4
  · rw [if_pos h3]; exact (by rintro v hv; rcases List.mem_singleton.1 hv with rfl; exact ok_txt hi.key)
  rw [if_neg h3]
  by_cases h4 : o.code = 5
  · rw [if_pos h4]; exact (by rintro v hv; rcases List.mem_singleton.1 hv with rfl; exact hi.value)
  rw [if_neg h4]
  by_cases h5 : o.code = 6
  · rw [if_pos h5]; exact (by rintro v hv; rcases List.mem_singleton.1 hv with rfl; exact ok_num hi.time)
  rw [if_neg h5]
  by_cases h6 : o.code = 7
  · rw [if_pos h6]; exact (by rintro v hv; rcases List.mem_singleton.1 hv with rfl; exact ok_num hi.now)
  rw [if_neg h6]
  by_cases h7 : o.code = 8
  · rw [if_pos h7]; exact (by rintro v hv; rcases List.mem_singleton.1 hv with rfl; exact hi.old)
  rw [if_neg h7]
  by_cases h8 : o.code = 9
  · rw [if_pos h8]; exact (by rintro v hv; rcases List.mem_singleton.1 hv with rfl; exact hi.side)
  rw [if_neg h8]
  by_cases h9 : o.code = 33
  · rw [if_pos h9]; exact (by rintro v hv; rcases List.mem_cons.1 hv with rfl | hv; exact ha; rcases List.mem_singleton.1 hv with rfl; exact ha)
  rw [if_neg h9]
  by_cases h10 : o.code = 34
  · rw [if_pos h10]; exact (by rintro v hv; rcases List.mem_cons.1 hv with rfl | hv; exact hb; rcases List.mem_singleton.1 hv with rfl; exact ha)
  rw [if_neg h10]
  by_cases h11 : o.code = 35 ∨ o.code = 36 ∨ o.code = 37
  · rw [if_pos h11]; exact (by rintro v hv; cases hv)
  rw [if_neg h11]
  exact (by rintro v hv; rcases List.mem_singleton.1 hv with rfl; exact one_ok ha hb hd)
theorem getD_ok {l : List ValA} (h : ∀ v ∈ l, okV v) (k : Nat) : okV (l.getD k vNone) := by
  rw [List.getD_eq_getElem?_getD]
  cases hk : l[k]? with
  | none => exact ok_none
  | some v => exact h v (List.mem_of_getElem? hk)
def stepP (i : InA) (o : OpA) (st : List ValA) (at_ : Int) : List ValA × Int × Int :=
  if st.length < (takesL o.code).length then (st, at_, 43) else stepL i o (st.take (st.length - (takesL o.code).length)) (st.drop (st.length - (takesL o.code).length)) at_
theorem stepP_ok {len : Int} {i : InA} {o : OpA} {st : List ValA} {at_ : Int} (hi : InOk i) (ho : okOp len o = true) (hlen : len ≤ 64) (hn : inR o.n) (hst : ∀ v ∈ st, okV v) (hat : 0 ≤ at_ ∧ at_ < len) (h0 : (stepP i o st at_).2.2 = 0) :
    (∀ v ∈ (stepP i o st at_).1, okV v) ∧ (stepP i o st at_).1.length ≤ 32 ∧ 0 ≤ (stepP i o st at_).2.1 ∧ (stepP i o st at_).2.1 ≤ 64 := by
  rw [okOp_iff] at ho
  unfold stepP at *
  split at h0
  · cases h0
  rename_i h1
  rw [if_neg h1]
  have hdr : ∀ v ∈ st.drop (st.length - (takesL o.code).length), okV v := fun v hv => hst v (List.mem_of_mem_drop hv)
  have htk : ∀ v ∈ st.take (st.length - (takesL o.code).length), okV v := fun v hv => hst v (List.mem_of_mem_take hv)
  generalize st.drop (st.length - (takesL o.code).length) = l at *
  generalize st.take (st.length - (takesL o.code).length) = lo at *
  unfold stepL at *
  split at h0
  · cases h0
  rename_i h2
  rw [if_neg h2]
  split at h0
  · rename_i h3; exact absurd h0 h3
  rename_i h3
  rw [if_neg h3]
  split at h0
  · cases h0
  rename_i h4
  rw [if_neg h4]
  refine ⟨fun v hv => ?_, by show (lo ++ _).length ≤ 32; rw [List.length_append]; omega, ?_, ?_⟩
  · rcases List.mem_append.1 hv with hv | hv
    · exact htk v hv
    · exact does_ok hi hn ho.2.2.2.2.2 (getD_ok hdr 0) (getD_ok hdr 1) (getD_ok hdr 2) v hv
  · dsimp only
    split <;> omega
  · dsimp only
    split <;> omega
end Go.Ev

set_option linter.unusedVariables false
set_option linter.unusedSimpArgs false
namespace Go.Ev
set_option maxRecDepth 100000
set_option maxHeartbeats 0
open Go.Proofs
theorem step_all (i : InA) (o : OpA) (st : List ValA) (at_ : Int) (hc : 1 ≤ o.code ∧ o.code ≤ 37) (hg : ∀ v ∈ st, okV v) (hst : st.length ≤ 32) (hat : 0 ≤ at_ ∧ at_ ≤ 64) :
    Spec Tryd.prog 23 [.optr (.agg (inC i ++ [.olst 3 (st.map encV), .int .i64 at_])) 0, .agg [.int .i64 o.code, .int .i64 o.n, .str (ofL o.s)]] (.int .i64 (stepP i o st at_).2.2) [.optr (.agg (inC i ++ [.olst 3 ((stepP i o st at_).1.map encV), .int .i64 (stepP i o st at_).2.1])) 0, .agg [.int .i64 o.code, .int .i64 o.n, .str (ofL o.s)]] := by
  unfold stepP
  split
  · rename_i h; exact step_short i o st at_ h
  · rename_i h
    have := step_f i o (st.take (st.length - (takesL o.code).length)) (st.drop (st.length - (takesL o.code).length)) at_ (by simp; omega) hc (fun v hv => hg v (List.mem_of_mem_drop hv)) (by simp; omega) hat (fun h37 => by
      have : (takesL o.code).length = 1 := by rw [h37]; rfl
      simp; omega)
    rw [List.take_append_drop] at this
    exact this
def runGo (p : List OpA) (i : InA) : Nat → List ValA → Int → Int → ValA × Int × Int
  | 0, st, at_, done => if (p.length : Int) ≤ at_ then (if st.length = 1 then (st.headD vNone, done, 0) else (vNone, done, 43)) else (vNone, done, 41)
  | k + 1, st, at_, done => if (p.length : Int) ≤ at_ then (if st.length = 1 then (st.headD vNone, done, 0) else (vNone, done, 43))
    else if (stepP i (p.getD at_.toNat ⟨0, 0, []⟩) st at_).2.2 ≠ 0 then (vNone, done, (stepP i (p.getD at_.toNat ⟨0, 0, []⟩) st at_).2.2)
    else runGo p i k (stepP i (p.getD at_.toNat ⟨0, 0, []⟩) st at_).1 (stepP i (p.getD at_.toNat ⟨0, 0, []⟩) st at_).2.1 (done + 1)
def runL (p : List OpA) (i : InA) (steps : Int) : ValA × Int × Int :=
  if checkL p ≠ 0 then (vNone, 0, 40) else if steps < 0 ∨ 4096 < steps ∨ 1024 < i.key.length ∨ mayL i.value = false ∨ mayL i.old = false ∨ mayL i.side = false then (vNone, 0, 2) else runGo p i steps.toNat [] 0 0
theorem run_f (f : Bool) (p : List OpA) (i : InA) (steps : Int) (hp : ∀ o ∈ p, inR o.n) (hv : inR i.value.n) (ho : inR i.old.n) (hs : inR i.side.n) (ht : inR i.time) (hnow : inR i.now) :
    Spec Tryd.prog 11 [.lst f 3 (p.map encP), .agg (inC i), .int .i64 steps] (.tup [.agg [.int .i64 ((runL p i steps).1).kind, .int .i64 ((runL p i steps).1).n, .str (ofL ((runL p i steps).1).s)], .int .i64 (runL p i steps).2.1, .int .i64 (runL p i steps).2.2]) [.lst f 3 (p.map encP), .agg (inC i), .int .i64 steps] := by
  have hm1 := may_spec i.value
  have hm2 := may_spec i.old
  have hm3 := may_spec i.side
  have hch := check_spec f p
  refine spec_go Tryd.f11 ?_; simp (maxSteps := 1000000) (disch := omega) only [push_cast, go_sem, simprocAttr, Tryd.f11, *]
  repeat' (first
    | with_reducible refine And.intro ?_ ?_
    | ((first | (with_reducible intro hx; (try simp only [false_dec, true_dec, Int.ofNat_inj, gt_iff_lt, ge_iff_le, decide_eq_true_eq, decide_eq_false_iff_not, Bool.not_eq_true', Bool.not_eq_false', Bool.and_eq_true, Bool.or_eq_false_iff, ne_eq, Classical.not_not] at hx); (first | (exfalso; omega) | skip)) | with_reducible refine branch_t ?_ | with_reducible refine branch_f ?_) <;> (try simp (maxSteps := 1000000) (disch := omega) only [push_cast, go_sem, simprocAttr, *]))
    | with_reducible refine cond_split ?_ ?_
    | with_reducible refine guard_split ?_ ?_
    | with_reducible refine still_split ?_ ?_
    | ((with_reducible refine drw_own ?_); simp (maxSteps := 1000000) (disch := omega) only [push_cast, go_sem, simprocAttr, *]; (with_reducible refine drw_id ?_))
    | ((first | with_reducible refine drw_in ?_ | with_reducible refine call_by3 [] (hch) ?_ | with_reducible refine call_by3 [] (hm1) ?_ | with_reducible refine call_by3 [] (hm2) ?_ | with_reducible refine call_by3 [] (hm3) ?_) <;> (try simp (maxSteps := 1000000) (disch := omega) only [push_cast, go_sem, simprocAttr, *]))
    | omega)
  · rw [runL, if_pos (by assumption)]; rfl
  · rw [runL, if_neg (by omega), if_pos (by simp [*])]; rfl
  · have hck : checkL p = 0 := by assumption
    have hrun : runL p i steps = runGo p i steps.toNat [] 0 0 := by
      rw [runL, if_neg (by omega), if_neg]
      rintro (h | h | h | h | h | h) <;> first | omega | simp_all
    rw [hrun]
    have hchk : 1 ≤ p.length ∧ p.length ≤ 64 ∧ p.all (okOp p.length) = true := by
      rw [checkL] at hck
      split at hck
      · assumption
      · cases hck
    obtain ⟨hp1, hp2, hpo⟩ := hchk
    have hi : InOk i := ⟨by omega, ⟨by assumption, hv⟩, ⟨by assumption, ho⟩, ⟨by assumption, hs⟩, ht, hnow⟩
    clear hm1 hm2 hm3 hch hrun hck
    refine loop_goN (σ := Nat × List ValA × Int × Int) (fun x N => ([(10, .int .i64 x.2.2.2), (9, .loc 3 0), (6, .loc 1 0), (0, .lst f 3 (p.map encP)), (1, .agg (inC i)), (2, .int .i64 steps)], [(3, .obj (.agg (inC i ++ [.row x.1 x.2.1.length 0 x.2.1.length, .int .i64 x.2.2.1]))), (x.1, .row 3 (x.2.1.map encV) false), (1, .obj (.agg [.int .i64 0, .int .i64 0, .str (ofL [])]))]))
      (fun x N => x.1 < N ∧ x.1 ≠ 3 ∧ x.1 ≠ 1 ∧ (∀ v ∈ x.2.1, okV v) ∧ x.2.1.length ≤ 32 ∧ 0 ≤ x.2.2.1 ∧ x.2.2.1 ≤ 64 ∧ 0 ≤ x.2.2.2 ∧ x.2.2.2 ≤ steps ∧ runGo p i (steps - x.2.2.2).toNat x.2.1 x.2.2.1 x.2.2.2 = runGo p i steps.toNat [] 0 0) (fun x => (steps - x.2.2.2).toNat) (2, [], 0, 0) ⟨by decide, by decide, by decide, by simp, by simp, by simp, by simp, by simp, by simp; omega, by simp⟩ ?_
    rintro ⟨id, st, at_, done⟩ N hN ⟨hid, hid3, hid1, hst, hsl, ha0, ha1, hd0, hd1, hrun⟩
    dsimp only at *
    rw [← hrun]
    clear hrun
    have hget : ∀ h : at_ < p.length, p.getD at_.toNat ⟨0, 0, []⟩ = p[at_.toNat]'(by omega) := fun h => by rw [List.getD_eq_getElem?_getD, List.getElem?_eq_getElem (by omega)]; rfl
    simp (maxSteps := 1000000) (disch := omega) only [push_cast, go_sem, simprocAttr, *]
    repeat' (first
    | with_reducible refine And.intro ?_ ?_
    | ((first | (with_reducible intro hx; (try simp only [false_dec, true_dec, Int.ofNat_inj, gt_iff_lt, ge_iff_le, decide_eq_true_eq, decide_eq_false_iff_not, Bool.not_eq_true', Bool.not_eq_false', Bool.and_eq_true, Bool.or_eq_false_iff, ne_eq, Classical.not_not] at hx); (first | (exfalso; omega) | skip)) | with_reducible refine branch_t ?_ | with_reducible refine branch_f ?_) <;> (try simp (maxSteps := 1000000) (disch := omega) only [push_cast, go_sem, simprocAttr, *]))
    | with_reducible refine cond_split ?_ ?_
    | with_reducible refine guard_split ?_ ?_
    | with_reducible refine still_split ?_ ?_
    | ((with_reducible refine drw_own ?_); simp (maxSteps := 1000000) (disch := omega) only [push_cast, go_sem, simprocAttr, *]; (with_reducible refine drw_id ?_))
    | ((first | with_reducible refine drw_in ?_ | with_reducible refine call_by3 [true] (step_all i p[at_.toNat] st at_ (by have := okOp_iff.1 (List.all_eq_true.1 hpo _ (List.getElem_mem (show at_.toNat < p.length by omega))); omega) hst hsl ⟨ha0, ha1⟩) ?_) <;> (try simp (maxSteps := 1000000) (disch := omega) only [push_cast, go_sem, simprocAttr, *]))
    | omega)
    · rw [show (steps - done).toNat = 0 by omega, runGo, if_neg (by omega)]; rfl
    · obtain ⟨k, hk⟩ : ∃ k, (steps - done).toNat = k + 1 := ⟨(steps - done).toNat - 1, by omega⟩
      rw [hk, runGo, if_neg (by omega), hget (by omega), if_pos (by assumption)]; rfl
    · obtain ⟨g1, g2, g3, g4⟩ := stepP_ok (len := p.length) hi (List.all_eq_true.1 hpo _ (List.getElem_mem (by omega))) (by omega) (hp _ (List.getElem_mem (by omega))) hst ⟨ha0, by assumption⟩ ‹(stepP i p[at_.toNat] st at_).2.2 = 0›
      refine end_openN 3 ?_
      simp (maxSteps := 1000000) (disch := omega) only [push_cast, go_sem, simprocAttr, *]
      refine loop_onN (N, (stepP i p[at_.toNat] st at_).1, (stepP i p[at_.toNat] st at_).2.1, done + 1) ⟨by dsimp only; omega, by dsimp only; omega, by dsimp only; omega, g1, g2, g3, g4, by dsimp only; omega, by dsimp only; omega, ?_⟩
      dsimp only
      rw [show (steps - done).toNat = (steps - (done + 1)).toNat + 1 by omega]
      conv => rhs; rw [runGo, if_neg (by omega), hget (by assumption), if_neg (by simp [*])]
    · cases hks : (steps - done).toNat with
      | zero => rw [runGo, if_pos (by omega), if_neg (by omega)]; rfl
      | succ k => rw [runGo, if_pos (by omega), if_neg (by omega)]; rfl
    · have h0 : ∀ h : 0 < st.length, st.headD vNone = st[0] := fun h => by cases st with | nil => simp at h | cons a l => rfl
      cases hks : (steps - done).toNat with
      | zero => rw [runGo, if_pos (by omega), if_pos (by omega), h0 (by omega)]
      | succ k => rw [runGo, if_pos (by omega), if_pos (by omega), h0 (by omega)]
  · rw [runL, if_neg (by omega), if_pos (by simp [*])]; rfl
  · rw [runL, if_neg (by omega), if_pos (by simp [*])]; rfl
  · rw [runL, if_neg (by omega), if_pos (by omega)]; rfl
  · rw [runL, if_neg (by omega), if_pos (by omega)]; rfl
  · rw [runL, if_neg (by omega), if_pos (by omega)]; rfl
end Go.Ev

set_option linter.unusedVariables false
set_option linter.unusedSimpArgs false
namespace Go.Ev
set_option maxRecDepth 100000
set_option maxHeartbeats 0
open Go.Proofs
def inCut (i : InA) : InA := ⟨i.key.take 1030, ⟨i.value.kind, i.value.n, i.value.s.take 1030⟩, i.time, i.now, ⟨i.old.kind, i.old.n, i.old.s.take 1030⟩, ⟨i.side.kind, i.side.n, i.side.s.take 1030⟩⟩
theorem short_f (s : List UInt8) : Spec Tryd.prog 18 [.str (ofL s)] (.str (ofL (s.take 1030))) [.str (ofL s)] := by
  refine spec_go Tryd.f18 ?_; simp (maxSteps := 1000000) (disch := omega) only [push_cast, go_sem, simprocAttr, Tryd.f18, *]
  repeat' (first
    | with_reducible refine And.intro ?_ ?_
    | ((first | (with_reducible intro hx; (try simp only [false_dec, true_dec, Int.ofNat_inj, gt_iff_lt, ge_iff_le, decide_eq_true_eq, decide_eq_false_iff_not, Bool.not_eq_true', Bool.not_eq_false', Bool.and_eq_true, Bool.or_eq_false_iff, ne_eq, Classical.not_not] at hx); (first | (exfalso; omega) | skip)) | with_reducible refine branch_t ?_ | with_reducible refine branch_f ?_) <;> (try simp (maxSteps := 1000000) (disch := omega) only [push_cast, go_sem, simprocAttr, *]))
    | with_reducible refine cond_split ?_ ?_
    | with_reducible refine guard_split ?_ ?_
    | with_reducible refine still_split ?_ ?_
    | ((with_reducible refine drw_own ?_); simp (maxSteps := 1000000) (disch := omega) only [push_cast, go_sem, simprocAttr, *]; (with_reducible refine drw_id ?_))
    | ((first | with_reducible refine drw_in ?_) <;> (try simp (maxSteps := 1000000) (disch := omega) only [push_cast, go_sem, simprocAttr, *]))
    | omega)
  rw [List.take_of_length_le (by omega)]
theorem small_f (i : InA) : Spec Tryd.prog 7 [.agg (inC i)] (.agg (inC (inCut i))) [.agg (inC i)] := by
  refine spec_go Tryd.f7 ?_; simp (maxSteps := 1000000) (disch := omega) only [push_cast, go_sem, simprocAttr, Tryd.f7, *]
  repeat' (first
    | with_reducible refine And.intro ?_ ?_
    | ((first | (with_reducible intro hx; (try simp only [false_dec, true_dec, Int.ofNat_inj, gt_iff_lt, ge_iff_le, decide_eq_true_eq, decide_eq_false_iff_not, Bool.not_eq_true', Bool.not_eq_false', Bool.and_eq_true, Bool.or_eq_false_iff, ne_eq, Classical.not_not] at hx); (first | (exfalso; omega) | skip)) | with_reducible refine branch_t ?_ | with_reducible refine branch_f ?_) <;> (try simp (maxSteps := 1000000) (disch := omega) only [push_cast, go_sem, simprocAttr, *]))
    | with_reducible refine cond_split ?_ ?_
    | with_reducible refine guard_split ?_ ?_
    | with_reducible refine still_split ?_ ?_
    | ((with_reducible refine drw_own ?_); simp (maxSteps := 1000000) (disch := omega) only [push_cast, go_sem, simprocAttr, *]; (with_reducible refine drw_id ?_))
    | ((first | with_reducible refine drw_plan3 pl7_0 ?_); (try simp (maxSteps := 1000000) (disch := omega) only [push_cast, go_sem, simprocAttr, *]); (fail_if_success (with_reducible change False)))
    | ((first | with_reducible refine drw_in ?_ | with_reducible refine call_by3 [] (short_f _) ?_) <;> (try simp (maxSteps := 1000000) (disch := omega) only [push_cast, go_sem, simprocAttr, *]))
    | omega)
  rfl
theorem lval_f (v : ValA) : Spec Tryd.prog 24 [.agg [.int .i64 v.kind, .int .i64 v.n, .str (ofL v.s)]] (.agg [.int .i64 v.kind, .int .i64 v.n, .str (ofL v.s)]) [.agg [.int .i64 v.kind, .int .i64 v.n, .str (ofL v.s)]] := by
  refine spec_go Tryd.f24 ?_; simp (maxSteps := 1000000) (disch := omega) only [push_cast, go_sem, simprocAttr, Tryd.f24, *]
  repeat' (first
    | with_reducible refine And.intro ?_ ?_
    | ((first | (with_reducible intro hx; (try simp only [false_dec, true_dec, Int.ofNat_inj, gt_iff_lt, ge_iff_le, decide_eq_true_eq, decide_eq_false_iff_not, Bool.not_eq_true', Bool.not_eq_false', Bool.and_eq_true, Bool.or_eq_false_iff, ne_eq, Classical.not_not] at hx); (first | (exfalso; omega) | skip)) | with_reducible refine branch_t ?_ | with_reducible refine branch_f ?_) <;> (try simp (maxSteps := 1000000) (disch := omega) only [push_cast, go_sem, simprocAttr, *]))
    | with_reducible refine cond_split ?_ ?_
    | with_reducible refine guard_split ?_ ?_
    | with_reducible refine still_split ?_ ?_
    | ((with_reducible refine drw_own ?_); simp (maxSteps := 1000000) (disch := omega) only [push_cast, go_sem, simprocAttr, *]; (with_reducible refine drw_id ?_))
    | ((first | with_reducible refine drw_in ?_) <;> (try simp (maxSteps := 1000000) (disch := omega) only [push_cast, go_sem, simprocAttr, *]))
    | omega)
theorem given_f (i : InA) : Spec Tryd.prog 13 [.agg (inC i)] (.agg (inC i)) [.agg (inC i)] := by
  have h1 := lval_f i.value
  have h2 := lval_f i.old
  have h3 := lval_f i.side
  refine spec_go Tryd.f13 ?_; simp (maxSteps := 1000000) (disch := omega) only [push_cast, go_sem, simprocAttr, Tryd.f13, *]
  repeat' (first
    | with_reducible refine And.intro ?_ ?_
    | ((first | (with_reducible intro hx; (try simp only [false_dec, true_dec, Int.ofNat_inj, gt_iff_lt, ge_iff_le, decide_eq_true_eq, decide_eq_false_iff_not, Bool.not_eq_true', Bool.not_eq_false', Bool.and_eq_true, Bool.or_eq_false_iff, ne_eq, Classical.not_not] at hx); (first | (exfalso; omega) | skip)) | with_reducible refine branch_t ?_ | with_reducible refine branch_f ?_) <;> (try simp (maxSteps := 1000000) (disch := omega) only [push_cast, go_sem, simprocAttr, *]))
    | with_reducible refine cond_split ?_ ?_
    | with_reducible refine guard_split ?_ ?_
    | with_reducible refine still_split ?_ ?_
    | ((with_reducible refine drw_own ?_); simp (maxSteps := 1000000) (disch := omega) only [push_cast, go_sem, simprocAttr, *]; (with_reducible refine drw_id ?_))
    | ((first | with_reducible refine drw_plan3 pl13_0 ?_); (try simp (maxSteps := 1000000) (disch := omega) only [push_cast, go_sem, simprocAttr, *]); (fail_if_success (with_reducible change False)))
    | ((first | with_reducible refine drw_in ?_ | with_reducible refine call_by3 [] (h1) ?_ | with_reducible refine call_by3 [] (h2) ?_ | with_reducible refine call_by3 [] (h3) ?_) <;> (try simp (maxSteps := 1000000) (disch := omega) only [push_cast, go_sem, simprocAttr, *]))
    | omega)
theorem rmay_f (v : ValA) : Spec Tryd.prog 9 [.agg [.int .i64 v.kind, .int .i64 v.n, .str (ofL v.s)]] (.bool (mayL v)) [.agg [.int .i64 v.kind, .int .i64 v.n, .str (ofL v.s)]] := by
  refine spec_go Tryd.f9 ?_; simp (maxSteps := 1000000) (disch := omega) only [push_cast, go_sem, simprocAttr, Tryd.f9, *]
  repeat' (first
    | with_reducible refine And.intro ?_ ?_
    | ((first | (with_reducible intro hx; (try simp only [false_dec, true_dec, Int.ofNat_inj, gt_iff_lt, ge_iff_le, decide_eq_true_eq, decide_eq_false_iff_not, Bool.not_eq_true', Bool.not_eq_false', Bool.and_eq_true, Bool.or_eq_false_iff, ne_eq, Classical.not_not] at hx); (first | (exfalso; omega) | skip)) | with_reducible refine branch_t ?_ | with_reducible refine branch_f ?_) <;> (try simp (maxSteps := 1000000) (disch := omega) only [push_cast, go_sem, simprocAttr, *]))
    | with_reducible refine cond_split ?_ ?_
    | with_reducible refine guard_split ?_ ?_
    | with_reducible refine still_split ?_ ?_
    | ((with_reducible refine drw_own ?_); simp (maxSteps := 1000000) (disch := omega) only [push_cast, go_sem, simprocAttr, *]; (with_reducible refine drw_id ?_))
    | ((first | with_reducible refine drw_in ?_) <;> (try simp (maxSteps := 1000000) (disch := omega) only [push_cast, go_sem, simprocAttr, *]))
    | omega)
  all_goals simp [mayL, *]
  omega
def cutOp (o : OpA) : OpA := ⟨o.code, o.n, o.s.take 1030⟩
def cutL (p : List OpA) : List OpA := (p.take 70).map cutOp
theorem cut_f (f : Bool) (p : List OpA) : Spec Tryd.prog 6 [.lst f 3 (p.map encP)] (.olst 3 ((cutL p).map encP)) [.lst f 3 (p.map encP)] := by
  refine spec_go Tryd.f6 ?_; simp (maxSteps := 1000000) (disch := omega) only [push_cast, go_sem, simprocAttr, Tryd.f6, *]
  repeat' (first
    | with_reducible refine And.intro ?_ ?_
    | ((first | (with_reducible intro hx; (try simp only [false_dec, true_dec, Int.ofNat_inj, gt_iff_lt, ge_iff_le, decide_eq_true_eq, decide_eq_false_iff_not, Bool.not_eq_true', Bool.not_eq_false', Bool.and_eq_true, Bool.or_eq_false_iff, ne_eq, Classical.not_not] at hx); (first | (exfalso; omega) | skip)) | with_reducible refine branch_t ?_ | with_reducible refine branch_f ?_) <;> (try simp (maxSteps := 1000000) (disch := omega) only [push_cast, go_sem, simprocAttr, *]))
    | with_reducible refine cond_split ?_ ?_
    | with_reducible refine guard_split ?_ ?_
    | with_reducible refine still_split ?_ ?_
    | ((with_reducible refine drw_own ?_); simp (maxSteps := 1000000) (disch := omega) only [push_cast, go_sem, simprocAttr, *]; (with_reducible refine drw_id ?_))
    | ((first | with_reducible refine drw_in ?_) <;> (try simp (maxSteps := 1000000) (disch := omega) only [push_cast, go_sem, simprocAttr, *]))
    | omega)
  refine loop_go (σ := Nat × List OpA) (fun x N => ([(8, .int .i64 x.1), (7, .int .i64 p.length), (6, .lst f 3 (p.map encP)), (3, .row 1 x.2.length 0 x.2.length), (0, .lst f 3 (p.map encP))], [(1, .row 3 (x.2.map encP) false)])) (fun x => x.1 ≤ p.length ∧ x.1 ≤ 70 ∧ x.2.length = x.1 ∧ x.2 = (p.take x.1).map cutOp) (fun x => p.length - x.1) (0, []) ⟨by simp, by simp, by simp, by simp⟩ ?_
  rintro ⟨i, acc⟩ N hN ⟨hi, h70, hlen, hacc⟩
  dsimp only at *
  have hend : Unit → (i = p.length ∨ i = 70 → acc = cutL p) := fun _ h => by
    rw [hacc, cutL]
    rcases h with h | h
    · rw [List.take_of_length_le (by omega), List.take_of_length_le (by omega)]
    · rw [h]
  have hnext : Unit → ∀ h : i < p.length, acc ++ [cutOp p[i]] = (p.take (i + 1)).map cutOp := fun _ h => by
    rw [List.take_add_one, List.getElem?_eq_getElem h, hacc, List.map_append]; rfl
  clear hacc
  simp (maxSteps := 1000000) (disch := omega) only [push_cast, go_sem, simprocAttr, *]
  repeat' (first
    | with_reducible refine And.intro ?_ ?_
    | ((first | (with_reducible intro hx; (try simp only [false_dec, true_dec, Int.ofNat_inj, gt_iff_lt, ge_iff_le, decide_eq_true_eq, decide_eq_false_iff_not, Bool.not_eq_true', Bool.not_eq_false', Bool.and_eq_true, Bool.or_eq_false_iff, ne_eq, Classical.not_not] at hx); (first | (exfalso; omega) | skip)) | with_reducible refine branch_t ?_ | with_reducible refine branch_f ?_) <;> (try simp (maxSteps := 1000000) (disch := omega) only [push_cast, go_sem, simprocAttr, *]))
    | with_reducible refine cond_split ?_ ?_
    | with_reducible refine guard_split ?_ ?_
    | with_reducible refine still_split ?_ ?_
    | ((with_reducible refine drw_own ?_); simp (maxSteps := 1000000) (disch := omega) only [push_cast, go_sem, simprocAttr, *]; (with_reducible refine drw_id ?_))
    | ((first | with_reducible refine drw_in ?_) <;> (try simp (maxSteps := 1000000) (disch := omega) only [push_cast, go_sem, simprocAttr, *]))
    | omega)
  · rw [List.take_of_length_le (by omega), hend () (by omega)]
  · refine loop_on (i + 1, acc ++ [cutOp p[i]]) ⟨by dsimp only; omega, by dsimp only; omega, by simp [hlen], hnext () (by omega)⟩ (hb := ?_)
    simp (maxSteps := 1000000) (disch := omega) only [push_cast, go_sem, simprocAttr, *]
    rw [List.map_append]; rfl
  · refine loop_on (i + 1, acc ++ [cutOp p[i]]) ⟨by dsimp only; omega, by dsimp only; omega, by simp [hlen], hnext () (by omega)⟩ (hb := ?_)
    simp (maxSteps := 1000000) (disch := omega) only [push_cast, go_sem, simprocAttr, *]
    have : p[i].s.take 1030 = p[i].s := List.take_of_length_le (by omega)
    simp only [cutOp, this, List.map_append]; rfl
  · rw [List.take_of_length_le (by omega), hend () (by omega)]
theorem ours_f (f : Bool) (p : List OpA) (hp : p.length ≤ 140) : Spec Tryd.prog 12 [.lst f 3 (p.map encP)] (.olst 3 (p.map encP)) [.lst f 3 (p.map encP)] := by
  refine spec_go Tryd.f12 ?_; simp (maxSteps := 1000000) (disch := omega) only [push_cast, go_sem, simprocAttr, Tryd.f12, *]
  repeat' (first
    | with_reducible refine And.intro ?_ ?_
    | ((first | (with_reducible intro hx; (try simp only [false_dec, true_dec, Int.ofNat_inj, gt_iff_lt, ge_iff_le, decide_eq_true_eq, decide_eq_false_iff_not, Bool.not_eq_true', Bool.not_eq_false', Bool.and_eq_true, Bool.or_eq_false_iff, ne_eq, Classical.not_not] at hx); (first | (exfalso; omega) | skip)) | with_reducible refine branch_t ?_ | with_reducible refine branch_f ?_) <;> (try simp (maxSteps := 1000000) (disch := omega) only [push_cast, go_sem, simprocAttr, *]))
    | with_reducible refine cond_split ?_ ?_
    | with_reducible refine guard_split ?_ ?_
    | with_reducible refine still_split ?_ ?_
    | ((with_reducible refine drw_own ?_); simp (maxSteps := 1000000) (disch := omega) only [push_cast, go_sem, simprocAttr, *]; (with_reducible refine drw_id ?_))
    | ((first | with_reducible refine drw_in ?_) <;> (try simp (maxSteps := 1000000) (disch := omega) only [push_cast, go_sem, simprocAttr, *]))
    | omega)
  refine loop_go (σ := Nat × List OpA) (fun x N => ([(8, .int .i64 x.1), (7, .int .i64 p.length), (6, .lst f 3 (p.map encP)), (3, .row 1 x.2.length 0 x.2.length), (0, .lst f 3 (p.map encP))], [(1, .row 3 (x.2.map encP) false)])) (fun x => x.1 ≤ p.length ∧ x.2.length = x.1 ∧ x.2 = p.take x.1) (fun x => p.length - x.1) (0, []) ⟨by simp, by simp, by simp⟩ ?_
  rintro ⟨i, acc⟩ N hN ⟨hi, hlen, hacc⟩
  dsimp only at *
  have hend : Unit → (i = p.length → acc = p) := fun _ h => by rw [hacc, List.take_of_length_le (by omega)]
  have hnext : Unit → ∀ h : i < p.length, acc ++ [p[i]] = p.take (i + 1) := fun _ h => by rw [List.take_add_one, List.getElem?_eq_getElem h, hacc]; simp
  clear hacc
  simp (maxSteps := 1000000) (disch := omega) only [push_cast, go_sem, simprocAttr, *]
  repeat' (first
    | with_reducible refine And.intro ?_ ?_
    | ((first | (with_reducible intro hx; (try simp only [false_dec, true_dec, Int.ofNat_inj, gt_iff_lt, ge_iff_le, decide_eq_true_eq, decide_eq_false_iff_not, Bool.not_eq_true', Bool.not_eq_false', Bool.and_eq_true, Bool.or_eq_false_iff, ne_eq, Classical.not_not] at hx); (first | (exfalso; omega) | skip)) | with_reducible refine branch_t ?_ | with_reducible refine branch_f ?_) <;> (try simp (maxSteps := 1000000) (disch := omega) only [push_cast, go_sem, simprocAttr, *]))
    | with_reducible refine cond_split ?_ ?_
    | with_reducible refine guard_split ?_ ?_
    | with_reducible refine still_split ?_ ?_
    | ((with_reducible refine drw_own ?_); simp (maxSteps := 1000000) (disch := omega) only [push_cast, go_sem, simprocAttr, *]; (with_reducible refine drw_id ?_))
    | ((first | with_reducible refine drw_in ?_) <;> (try simp (maxSteps := 1000000) (disch := omega) only [push_cast, go_sem, simprocAttr, *]))
    | omega)
  · refine loop_on (i + 1, acc ++ [p[i]]) ⟨by dsimp only; omega, by simp [hlen], hnext () (by omega)⟩ (hb := ?_)
    simp (maxSteps := 1000000) (disch := omega) only [push_cast, go_sem, simprocAttr, *]
    rw [List.map_append]; rfl
  · rw [List.take_of_length_le (by omega), hend () (by omega)]
theorem rcheck_f (f : Bool) (p : List OpA) : Spec Tryd.prog 8 [.lst f 3 (p.map encP)] (.int .i64 (checkL p)) [.lst f 3 (p.map encP)] := by
  refine spec_go Tryd.f8 ?_; simp (maxSteps := 1000000) (disch := omega) only [push_cast, go_sem, simprocAttr, Tryd.f8, *]
  repeat' (first
    | with_reducible refine And.intro ?_ ?_
    | ((first | (with_reducible intro hx; (try simp only [false_dec, true_dec, Int.ofNat_inj, gt_iff_lt, ge_iff_le, decide_eq_true_eq, decide_eq_false_iff_not, Bool.not_eq_true', Bool.not_eq_false', Bool.and_eq_true, Bool.or_eq_false_iff, ne_eq, Classical.not_not] at hx); (first | (exfalso; omega) | skip)) | with_reducible refine branch_t ?_ | with_reducible refine branch_f ?_) <;> (try simp (maxSteps := 1000000) (disch := omega) only [push_cast, go_sem, simprocAttr, *]))
    | with_reducible refine cond_split ?_ ?_
    | with_reducible refine guard_split ?_ ?_
    | with_reducible refine still_split ?_ ?_
    | ((with_reducible refine drw_own ?_); simp (maxSteps := 1000000) (disch := omega) only [push_cast, go_sem, simprocAttr, *]; (with_reducible refine drw_id ?_))
    | ((first | with_reducible refine drw_in ?_) <;> (try simp (maxSteps := 1000000) (disch := omega) only [push_cast, go_sem, simprocAttr, *]))
    | omega)
  · rw [checkL, if_neg (by omega)]
  · refine loop_go (σ := Nat) (fun i N => ([(15, .int .i64 i), (14, .int .i64 p.length), (13, .lst f 3 (p.map encP)), (0, .lst f 3 (p.map encP))], [])) (fun i => i ≤ p.length ∧ (p.take i).all (okOp p.length) = true) (fun i => p.length - i) 0 ⟨by omega, by simp⟩ ?_
    rintro i N hN ⟨hi, hinv⟩
    have bad : ∀ h : i < p.length, ¬ okOp p.length p[i] = true → checkL p = 40 := fun h hb => by
      have : ¬ p.all (okOp p.length) = true := fun h' => hb (List.all_eq_true.1 h' _ (List.getElem_mem h))
      rw [checkL, if_neg (by simp [this])]
    have good : ∀ h : i < p.length, okOp p.length p[i] = true → (p.take (i + 1)).all (okOp p.length) = true := fun h hb => by rw [all_take_succ h, hinv, hb]; rfl
    have fin : ¬ i < p.length → checkL p = 0 := fun h => by
      rw [List.take_of_length_le (by omega)] at hinv
      rw [checkL, if_pos ⟨by omega, by omega, hinv⟩]
    clear hinv
    simp only [okOp_iff] at bad good
    simp (maxSteps := 1000000) (disch := omega) only [push_cast, go_sem, simprocAttr, *]
    repeat' (first
    | with_reducible refine And.intro ?_ ?_
    | ((first | (with_reducible intro hx; (try simp only [false_dec, true_dec, Int.ofNat_inj, gt_iff_lt, ge_iff_le, decide_eq_true_eq, decide_eq_false_iff_not, Bool.not_eq_true', Bool.not_eq_false', Bool.and_eq_true, Bool.or_eq_false_iff, ne_eq, Classical.not_not] at hx); (first | (exfalso; omega) | skip)) | with_reducible refine branch_t ?_ | with_reducible refine branch_f ?_) <;> (try simp (maxSteps := 1000000) (disch := omega) only [push_cast, go_sem, simprocAttr, *]))
    | with_reducible refine cond_split ?_ ?_
    | with_reducible refine guard_split ?_ ?_
    | with_reducible refine still_split ?_ ?_
    | ((with_reducible refine drw_own ?_); simp (maxSteps := 1000000) (disch := omega) only [push_cast, go_sem, simprocAttr, *]; (with_reducible refine drw_id ?_))
    | ((first | with_reducible refine drw_in ?_) <;> (try simp (maxSteps := 1000000) (disch := omega) only [push_cast, go_sem, simprocAttr, *]))
    | omega)
    all_goals try simp only [← List.length_eq_zero_iff] at *
    all_goals first
      | (rw [bad (by omega) (by omega)])
      | (refine loop_on (i + 1) ⟨by omega, good (by omega) (by omega)⟩)
      | (rw [fin (by omega)])
  · rw [checkL, if_neg (by omega)]
end Go.Ev

set_option linter.unusedVariables false
set_option linter.unusedSimpArgs false
namespace Go.Ev
open Go.Proofs
theorem reckon_err {c a b : Int} : (reckonF c a b).2 ≠ 41 := by
  unfold reckonF
  repeat' split
  all_goals (dsimp only; decide)
theorem texts_err {c : Int} {a b d : ValA} : (textsF c a b d).2 ≠ 41 := by
  unfold textsF
  repeat' split
  all_goals (dsimp only; decide)
theorem one_err {c : Int} {a b d : ValA} : (oneF c a b d).2 ≠ 41 := by
  unfold oneF
  split
  · exact reckon_err
  split
  · exact texts_err
  repeat' split
  all_goals (dsimp only; decide)
theorem does_err {i : InA} {o : OpA} {l : List ValA} : (doesL i o l).2 ≠ 41 := by
  unfold doesL doesF
  by_cases h : o.code = 1 ∨ o.code = 2 ∨ o.code = 3 ∨ o.code = 4 ∨ o.code = 5 ∨ o.code = 6 ∨ o.code = 7 ∨ o.code = 8 ∨ o.code = 9 ∨ o.code = 33 ∨ o.code = 34 ∨ (o.code = 35 ∨ o.code = 36 ∨ o.code = 37)
  · rcases h with h | h | h | h | h | h | h | h | h | h | h | h
    all_goals (repeat (first | rw [if_pos (by omega)] | rw [if_neg (by omega)]))
    all_goals (show (0 : Int) ≠ 41; decide)
  · repeat rw [if_neg (by omega)]
    exact one_err
theorem stepP_err {i : InA} {o : OpA} {st : List ValA} {at_ : Int} : (stepP i o st at_).2.2 ≠ 41 := by
  unfold stepP
  split
  · (dsimp only; decide)
  unfold stepL
  split
  · (dsimp only; decide)
  split
  · exact does_err
  split
  · (dsimp only; decide)
  · (dsimp only; decide)
variable {p : List OpA} {i : InA}
theorem runGo_end {k : Nat} {st : List ValA} {at_ done : Int} (h : (p.length : Int) ≤ at_) : runGo p i k st at_ done = if st.length = 1 then (st.headD vNone, done, 0) else (vNone, done, 43) := by
  cases k <;> rw [runGo, if_pos h]
theorem runGo_bounds : ∀ {k : Nat} {st : List ValA} {at_ done : Int}, done ≤ (runGo p i k st at_ done).2.1 ∧ (runGo p i k st at_ done).2.1 ≤ done + k
  | k, st, at_, done => by
    by_cases h : (p.length : Int) ≤ at_
    · rw [runGo_end h]; split <;> (dsimp only; omega)
    · cases k with
      | zero => rw [runGo, if_neg h]; dsimp only; omega
      | succ k =>
        rw [runGo, if_neg h]
        split
        · dsimp only; omega
        · have := runGo_bounds (k := k) (st := (stepP i (p.getD at_.toNat ⟨0, 0, []⟩) st at_).1) (at_ := (stepP i (p.getD at_.toNat ⟨0, 0, []⟩) st at_).2.1) (done := done + 1)
          omega
theorem runGo_steps : ∀ {k : Nat} {st : List ValA} {at_ done : Int}, (runGo p i k st at_ done).2.2 = 41 → (runGo p i k st at_ done).2.1 = done + k
  | k, st, at_, done => by
    by_cases h : (p.length : Int) ≤ at_
    · rw [runGo_end h]; split <;> (intro h; cases h)
    · cases k with
      | zero => rw [runGo, if_neg h]; intro _; dsimp only; omega
      | succ k =>
        rw [runGo, if_neg h]
        split
        · intro h; exact absurd h stepP_err
        · intro h
          have := runGo_steps h
          omega
theorem runGo_more : ∀ {k j : Nat} {st : List ValA} {at_ done : Int}, (runGo p i k st at_ done).2.2 ≠ 41 → runGo p i (k + j) st at_ done = runGo p i k st at_ done
  | k, j, st, at_, done => by
    by_cases h : (p.length : Int) ≤ at_
    · intro _; rw [runGo_end h, runGo_end h]
    · cases k with
      | zero => rw [runGo, if_neg h]; intro hc; exact absurd rfl hc
      | succ k =>
        rw [show k + 1 + j = (k + j) + 1 by omega, runGo, runGo, if_neg h, if_neg h]
        split
        · intro _; rfl
        · exact runGo_more
theorem runGo_less : ∀ {k j : Nat} {st : List ValA} {at_ done : Int}, done + j < (runGo p i k st at_ done).2.1 → runGo p i j st at_ done = (vNone, done + j, 41)
  | k, j, st, at_, done => by
    by_cases h : (p.length : Int) ≤ at_
    · rw [runGo_end h]; split <;> (intro h; dsimp only at h; omega)
    · cases k with
      | zero => rw [runGo, if_neg h]; intro hc; dsimp only at hc; omega
      | succ k =>
        rw [runGo, if_neg h]
        split
        · intro hc; dsimp only at hc; omega
        · rename_i he
          intro hc
          cases j with
          | zero => rw [runGo, if_neg h]; simp
          | succ j =>
            rw [runGo, if_neg h, if_neg he, runGo_less (k := k) (j := j) (by omega)]
            congr 2; omega
/-- May a program be run over this? -/
def mayRun (p : List OpA) (i : InA) : Prop := checkL p = 0 ∧ i.key.length ≤ 1024 ∧ mayL i.value = true ∧ mayL i.old = true ∧ mayL i.side = true
theorem runL_go (h : mayRun p i) {k : Int} (h0 : 0 ≤ k) (h1 : k ≤ 4096) : runL p i k = runGo p i k.toNat [] 0 0 := by
  obtain ⟨g1, g2, g3, g4, g5⟩ := h
  rw [runL, if_neg (by omega), if_neg]
  rintro (h | h | h | h | h | h)
  · omega
  · omega
  · omega
  · rw [g3] at h; cases h
  · rw [g4] at h; cases h
  · rw [g5] at h; cases h
theorem runL_steps (h : mayRun p i) {k : Int} (h0 : 0 ≤ k) (h1 : k ≤ 4096) (he : (runL p i k).2.2 = 41) : (runL p i k).2.1 = k := by
  rw [runL_go h h0 h1] at *
  have := runGo_steps he
  omega
theorem runL_bounds (h : mayRun p i) {k : Int} (h0 : 0 ≤ k) (h1 : k ≤ 4096) : 0 ≤ (runL p i k).2.1 ∧ (runL p i k).2.1 ≤ k := by
  rw [runL_go h h0 h1]
  have := runGo_bounds (p := p) (i := i) (k := k.toNat) (st := []) (at_ := 0) (done := 0)
  omega
theorem runL_more (h : mayRun p i) {k m : Int} (h0 : 0 ≤ k) (hkm : k ≤ m) (h1 : m ≤ 4096) (he : (runL p i k).2.2 ≠ 41) : runL p i m = runL p i k := by
  rw [runL_go h h0 (by omega)] at *
  rw [runL_go h (by omega) h1, show m.toNat = k.toNat + (m - k).toNat by omega, runGo_more he]
theorem runL_less (h : mayRun p i) {k j : Int} (h0 : 0 ≤ k) (h1 : k ≤ 4096) (hj : 0 ≤ j) (hjk : j < (runL p i k).2.1) : runL p i j = (vNone, j, 41) := by
  have hb := runL_bounds h h0 h1
  rw [runL_go h h0 h1] at hjk hb
  rw [runL_go h hj (by omega), runGo_less (k := k.toNat) (by omega)]
  congr 2; omega
end Go.Ev

set_option linter.unusedVariables false
set_option linter.unusedSimpArgs false
namespace Go.Ev
set_option maxRecDepth 100000
set_option maxHeartbeats 0
open Go.Proofs
def encL (g : Bool) (l : List OpA) : AV := .lst g 3 (l.map encP)
theorem encL_low {g : Bool} {r : List OpA} : low (encL g r) = encL false r := by simp [encL, low, lowL_map, encP_low]
theorem encL_cells {g : Bool} {r : List OpA} : cellsOf (encL g r) = [.lst g 3 (r.map encP)] := rfl
theorem encL_bd {g : Bool} {r : List OpA} {n : Nat} : Bd n (encL g r) = True := by simp [encL, Bd, bdL_map, encP_bd]
theorem encL_noO {g : Bool} {r : List OpA} : NoO (encL g r) = True := by simp [encL, NoO]
theorem encL_okE {g : Bool} {r : List OpA} : okE 1 (encL g r) = True := by simp [encL, okE, cellsOf, allC1, C1]
attribute [push_cast] encL_cells encL_low encL_bd encL_noO encL_okE
/-- An operation of a program behind so many others. -/
def shiftO (a : Int) (o : OpA) : OpA := if o.code = 36 ∨ o.code = 37 then ⟨o.code, w64 (o.n + a), o.s⟩ else o
def joinL (acc : List OpA) : List (List OpA) → List OpA
  | [] => acc
  | l :: r => joinL (acc ++ l.map (shiftO acc.length)) r
theorem join_f (g : Bool) (ps : List (List OpA)) (hl : ∀ l ∈ ps, l.length ≤ 140) (hp : ps.length ≤ 3) : Spec Tryd.prog 17 [.lst false 1 (ps.map (encL g))] (.olst 3 ((joinL [] ps).map encP)) [.lst false 1 (ps.map (encL g))] := by
  refine spec_go Tryd.f17 ?_; simp (maxSteps := 1000000) (disch := omega) only [push_cast, go_sem, simprocAttr, Tryd.f17, *]
  repeat' (first
    | with_reducible refine And.intro ?_ ?_
    | ((first | (with_reducible intro hx; (try simp only [false_dec, true_dec, Int.ofNat_inj, gt_iff_lt, ge_iff_le, decide_eq_true_eq, decide_eq_false_iff_not, Bool.not_eq_true', Bool.not_eq_false', Bool.and_eq_true, Bool.or_eq_false_iff, ne_eq, Classical.not_not] at hx); (first | (exfalso; omega) | skip)) | with_reducible refine branch_t ?_ | with_reducible refine branch_f ?_) <;> (try simp (maxSteps := 1000000) (disch := omega) only [push_cast, go_sem, simprocAttr, *]))
    | with_reducible refine cond_split ?_ ?_
    | with_reducible refine guard_split ?_ ?_
    | with_reducible refine still_split ?_ ?_
    | ((with_reducible refine drw_own ?_); simp (maxSteps := 1000000) (disch := omega) only [push_cast, go_sem, simprocAttr, *]; (with_reducible refine drw_id ?_))
    | ((first | with_reducible refine drw_in ?_) <;> (try simp (maxSteps := 1000000) (disch := omega) only [push_cast, go_sem, simprocAttr, *]))
    | omega)
  refine loop_go (σ := Nat × List OpA) (fun x N => ([(11, .int .i64 x.1), (10, .int .i64 ps.length), (9, .lst false 1 (ps.map (encL g))), (3, .row 1 x.2.length 0 x.2.length), (0, .lst false 1 (ps.map (encL g)))], [(1, .row 3 (x.2.map encP) false)])) (fun x => x.1 ≤ ps.length ∧ x.2.length ≤ 140 * x.1 ∧ joinL x.2 (ps.drop x.1) = joinL [] ps) (fun x => ps.length - x.1) (0, []) ⟨by simp, by simp, by simp⟩ ?_
  rintro ⟨k, acc⟩ N hN ⟨hk, hacc, hinv⟩
  dsimp only at *
  have hend : Unit → k = ps.length → acc = joinL [] ps := fun _ h => by rw [← hinv, h, List.drop_length]; rfl
  have hnext : Unit → ∀ h : k < ps.length, joinL (acc ++ ps[k].map (shiftO acc.length)) (ps.drop (k + 1)) = joinL [] ps := fun _ h => by rw [← hinv, List.drop_eq_getElem_cons h]; rfl
  have hlk : Unit → ∀ h : k < ps.length, ps[k].length ≤ 140 := fun _ h => hl _ (List.getElem_mem h)
  clear hinv hl
  by_cases hkl : k < ps.length
  · have hlk := hlk () hkl
    have hnext := hnext () hkl
    have hgk : ps[k]? = some ps[k] := List.getElem?_eq_getElem hkl
    generalize ps[k] = l at *
    simp (maxSteps := 1000000) (disch := omega) only [push_cast, go_sem, simprocAttr, *]
    repeat' (first
    | with_reducible refine And.intro ?_ ?_
    | ((first | (with_reducible intro hx; (try simp only [false_dec, true_dec, Int.ofNat_inj, gt_iff_lt, ge_iff_le, decide_eq_true_eq, decide_eq_false_iff_not, Bool.not_eq_true', Bool.not_eq_false', Bool.and_eq_true, Bool.or_eq_false_iff, ne_eq, Classical.not_not] at hx); (first | (exfalso; omega) | skip)) | with_reducible refine branch_t ?_ | with_reducible refine branch_f ?_) <;> (try simp (maxSteps := 1000000) (disch := omega) only [push_cast, go_sem, simprocAttr, *]))
    | with_reducible refine cond_split ?_ ?_
    | with_reducible refine guard_split ?_ ?_
    | with_reducible refine still_split ?_ ?_
    | ((with_reducible refine drw_own ?_); simp (maxSteps := 1000000) (disch := omega) only [push_cast, go_sem, simprocAttr, *]; (with_reducible refine drw_id ?_))
    | ((first | with_reducible refine drw_in ?_) <;> (try simp (maxSteps := 1000000) (disch := omega) only [push_cast, go_sem, simprocAttr, *]))
    | omega)
    refine loop_go (σ := Nat × List OpA) (fun x N => ([(19, .int .i64 x.1), (18, .int .i64 l.length), (17, .lst g 3 (l.map encP)), (6, .int .i64 acc.length), (11, .int .i64 k), (10, .int .i64 ps.length), (9, .lst false 1 (ps.map (encL g))), (3, .row 1 x.2.length 0 x.2.length), (0, .lst false 1 (ps.map (encL g)))], [(1, .row 3 (x.2.map encP) false)])) (fun x => x.1 ≤ l.length ∧ x.2.length = acc.length + x.1 ∧ x.2 = acc ++ (l.take x.1).map (shiftO acc.length)) (fun x => l.length - x.1) (0, acc) ⟨by simp, by simp, by simp⟩ ?_
    rintro ⟨j, out⟩ N' hN' ⟨hj, hol, hout⟩
    dsimp only at *
    have hfin : Unit → j = l.length → out = acc ++ l.map (shiftO acc.length) := fun _ h => by rw [hout, h, List.take_length]
    have hstep : Unit → ∀ h : j < l.length, out ++ [shiftO acc.length l[j]] = acc ++ (l.take (j + 1)).map (shiftO acc.length) := fun _ h => by
      rw [hout, List.take_add_one, List.getElem?_eq_getElem h, List.map_append, List.append_assoc]; rfl
    clear hout
    simp (maxSteps := 1000000) (disch := omega) only [push_cast, go_sem, simprocAttr, *]
    repeat' (first
    | with_reducible refine And.intro ?_ ?_
    | ((first | (with_reducible intro hx; (try simp only [false_dec, true_dec, Int.ofNat_inj, gt_iff_lt, ge_iff_le, decide_eq_true_eq, decide_eq_false_iff_not, Bool.not_eq_true', Bool.not_eq_false', Bool.and_eq_true, Bool.or_eq_false_iff, ne_eq, Classical.not_not] at hx); (first | (exfalso; omega) | skip)) | with_reducible refine branch_t ?_ | with_reducible refine branch_f ?_) <;> (try simp (maxSteps := 1000000) (disch := omega) only [push_cast, go_sem, simprocAttr, *]))
    | with_reducible refine cond_split ?_ ?_
    | with_reducible refine guard_split ?_ ?_
    | with_reducible refine still_split ?_ ?_
    | ((with_reducible refine drw_own ?_); simp (maxSteps := 1000000) (disch := omega) only [push_cast, go_sem, simprocAttr, *]; (with_reducible refine drw_id ?_))
    | ((first | with_reducible refine drw_in ?_) <;> (try simp (maxSteps := 1000000) (disch := omega) only [push_cast, go_sem, simprocAttr, *]))
    | omega)
    · refine loop_on (j + 1, out ++ [shiftO acc.length l[j]]) ⟨by dsimp only; omega, by rw [List.length_append]; simp only [List.length_cons, List.length_nil]; omega, hstep () (by omega)⟩ (hb := ?_)
      simp (maxSteps := 1000000) (disch := omega) only [push_cast, go_sem, simprocAttr, *]
      rw [List.map_append]
      simp [shiftO, encP, *]
    · refine loop_on (j + 1, out ++ [shiftO acc.length l[j]]) ⟨by dsimp only; omega, by rw [List.length_append]; simp only [List.length_cons, List.length_nil]; omega, hstep () (by omega)⟩ (hb := ?_)
      simp (maxSteps := 1000000) (disch := omega) only [push_cast, go_sem, simprocAttr, *]
      rw [List.map_append]
      simp [shiftO, encP, *]
    · refine loop_on (j + 1, out ++ [shiftO acc.length l[j]]) ⟨by dsimp only; omega, by rw [List.length_append]; simp only [List.length_cons, List.length_nil]; omega, hstep () (by omega)⟩ (hb := ?_)
      simp (maxSteps := 1000000) (disch := omega) only [push_cast, go_sem, simprocAttr, *]
      rw [List.map_append]
      simp [shiftO, encP, *]
    · obtain rfl : j = l.length := by omega
      refine loop_on (k + 1, out) ⟨by dsimp only; omega, by dsimp only; omega, ?_⟩
      dsimp only
      rw [hfin () rfl]; exact hnext
  · have := hend () (by omega)
    subst this
    simp (maxSteps := 1000000) (disch := omega) only [push_cast, go_sem, simprocAttr, *]
    repeat' (first
    | with_reducible refine And.intro ?_ ?_
    | ((first | (with_reducible intro hx; (try simp only [false_dec, true_dec, Int.ofNat_inj, gt_iff_lt, ge_iff_le, decide_eq_true_eq, decide_eq_false_iff_not, Bool.not_eq_true', Bool.not_eq_false', Bool.and_eq_true, Bool.or_eq_false_iff, ne_eq, Classical.not_not] at hx); (first | (exfalso; omega) | skip)) | with_reducible refine branch_t ?_ | with_reducible refine branch_f ?_) <;> (try simp (maxSteps := 1000000) (disch := omega) only [push_cast, go_sem, simprocAttr, *]))
    | with_reducible refine cond_split ?_ ?_
    | with_reducible refine guard_split ?_ ?_
    | with_reducible refine still_split ?_ ?_
    | ((with_reducible refine drw_own ?_); simp (maxSteps := 1000000) (disch := omega) only [push_cast, go_sem, simprocAttr, *]; (with_reducible refine drw_id ?_))
    | ((first | with_reducible refine drw_in ?_) <;> (try simp (maxSteps := 1000000) (disch := omega) only [push_cast, go_sem, simprocAttr, *]))
    | omega)
end Go.Ev

set_option linter.unusedVariables false
set_option linter.unusedSimpArgs false
namespace Go.Ev
open Go.Proofs
theorem shift0 {o : OpA} (h : inR o.n) : shiftO 0 o = o := by
  unfold shiftO
  split
  · have : w64 (o.n + 0) = o.n := by show IntKind.i64.wrap (o.n + 0) = o.n; rw [Int.add_zero]; exact IntWalk.i64_in _ h
    rw [this]
  · rfl
def allOf (P Q : List OpA) (c : Int) : List OpA := P ++ (Q.map (shiftO P.length) ++ [⟨c, 0, []⟩])
theorem join_is {P Q : List OpA} {c : Int} (hP : ∀ o ∈ P, inR o.n) (hc : c ≠ 36 ∧ c ≠ 37) : joinL [] [P, Q, [⟨c, 0, []⟩]] = allOf P Q c := by
  have h1 : P.map (shiftO 0) = P := by
    conv => rhs; rw [← List.map_id P]
    exact List.map_congr_left fun o ho => shift0 (hP o ho)
  have h2 : ∀ a, shiftO a ⟨c, 0, []⟩ = ⟨c, 0, []⟩ := fun a => by unfold shiftO; rw [if_neg (by dsimp only; omega)]
  simp only [joinL, List.nil_append, List.length_nil, List.map_cons, List.map_nil, h2, allOf]
  have : (((0 : Nat) : Int)) = 0 := rfl
  rw [this, h1, List.append_assoc]
theorem all_len {P Q : List OpA} {c : Int} : (allOf P Q c).length = P.length + Q.length + 1 := by simp [allOf]; omega
theorem all_lo {P Q : List OpA} {c : Int} {k : Nat} (h : k < P.length) : (allOf P Q c).getD k ⟨0, 0, []⟩ = P.getD k ⟨0, 0, []⟩ := by
  simp only [allOf, List.getD_eq_getElem?_getD, List.getElem?_append_left h]
theorem all_mid {P Q : List OpA} {c : Int} {k : Nat} (h : k < Q.length) : (allOf P Q c).getD (P.length + k) ⟨0, 0, []⟩ = shiftO P.length (Q.getD k ⟨0, 0, []⟩) := by
  simp only [allOf, List.getD_eq_getElem?_getD]
  rw [List.getElem?_append_right (by omega), show P.length + k - P.length = k by omega, List.getElem?_append_left (by simpa using h), List.getElem?_map, List.getElem?_eq_getElem h]
  rfl
theorem all_hi {P Q : List OpA} {c : Int} : (allOf P Q c).getD (P.length + Q.length) ⟨0, 0, []⟩ = ⟨c, 0, []⟩ := by
  simp only [allOf, List.getD_eq_getElem?_getD]
  rw [List.getElem?_append_right (by omega), show P.length + Q.length - P.length = Q.length by omega, List.getElem?_append_right (by simp)]
  simp
/-- Where a step that is made leads to. -/
theorem stepP_at {len : Int} {i : InA} {o : OpA} {st : List ValA} {at_ : Int} (ho : okOp len o = true) (hat : 0 ≤ at_ ∧ at_ < len) (h0 : (stepP i o st at_).2.2 = 0) : 0 ≤ (stepP i o st at_).2.1 ∧ (stepP i o st at_).2.1 ≤ len := by
  rw [okOp_iff] at ho
  unfold stepP at *
  split at h0
  · cases h0
  rename_i h1
  rw [if_neg h1]
  unfold stepL at *
  split at h0
  · cases h0
  rename_i h2
  rw [if_neg h2]
  split at h0
  · rename_i h3; exact absurd h0 h3
  rename_i h3
  rw [if_neg h3]
  split at h0
  · cases h0
  rename_i h4
  rw [if_neg h4]
  dsimp only
  split <;> omega
theorem okOp_get {P : List OpA} (h : P.all (okOp P.length) = true) {at_ : Int} (h0 : 0 ≤ at_) (h1 : at_ < P.length) : okOp P.length (P.getD at_.toNat ⟨0, 0, []⟩) = true := by
  rw [List.getD_eq_getElem?_getD, List.getElem?_eq_getElem (by omega)]
  exact List.all_eq_true.1 h _ (List.getElem_mem _)
variable {P Q : List OpA} {c : Int} {i : InA}
theorem run_pre (hok : P.all (okOp P.length) = true) : ∀ {k : Nat} {st : List ValA} {at_ done : Int} {v : ValA} {n' : Int}, 0 ≤ at_ → at_ ≤ P.length → runGo P i k st at_ done = (v, n', 0) →
    ∀ F : Nat, (n' - done).toNat ≤ F → runGo (allOf P Q c) i F st at_ done = runGo (allOf P Q c) i (F - (n' - done).toNat) [v] P.length n'
  | k, st, at_, done, v, n', h0, h1, h, F, hF => by
    by_cases he : (P.length : Int) ≤ at_
    · rw [runGo_end he] at h
      split at h
      · rename_i hl
        injection h with e1 e2
        injection e2 with e2 _
        subst e2
        obtain rfl : at_ = P.length := by omega
        match st, hl with
        | [x], _ =>
          have : x = v := e1
          subst this
          rw [Int.sub_self]; rfl
      · injection h with _ h; injection h with _ h; cases h
    · cases k with
      | zero => rw [runGo, if_neg he] at h; injection h with _ h; injection h with _ h; cases h
      | succ k =>
        rw [runGo, if_neg he] at h
        split at h
        · rename_i hne; injection h with _ h; injection h with _ h; exact absurd h hne
        · rename_i hz
          have hz : (stepP i (P.getD at_.toNat ⟨0, 0, []⟩) st at_).2.2 = 0 := by simpa using hz
          obtain ⟨g1, g2⟩ := stepP_at (okOp_get hok h0 (by omega)) ⟨h0, by omega⟩ hz
          have hb := runGo_bounds (p := P) (i := i) (k := k) (st := (stepP i (P.getD at_.toNat ⟨0, 0, []⟩) st at_).1) (at_ := (stepP i (P.getD at_.toNat ⟨0, 0, []⟩) st at_).2.1) (done := done + 1)
          rw [h] at hb
          dsimp only at hb
          obtain ⟨F', rfl⟩ : ∃ F', F = F' + 1 := ⟨F - 1, by omega⟩
          rw [runGo, if_neg (by rw [all_len]; omega), all_lo (by omega), if_neg (by rw [hz]; simp), run_pre hok g1 g2 h F' (by omega)]
          congr 1; omega
theorem shift_code {o : OpA} {a : Int} : (shiftO a o).code = o.code := by unfold shiftO; split <;> rfl
theorem does_jump {o : OpA} {l : List ValA} (h : o.code = 36 ∨ o.code = 37) : doesL i o l = ([], 0) := by
  unfold doesL doesF
  rw [if_neg (by omega), if_neg (by omega), if_neg (by omega), if_neg (by omega), if_neg (by omega), if_neg (by omega), if_neg (by omega), if_neg (by omega), if_neg (by omega), if_neg (by omega), if_neg (by omega), if_pos (by omega)]
theorem does_shift {o : OpA} {a : Int} {l : List ValA} : doesL i (shiftO a o) l = doesL i o l := by
  by_cases h : o.code = 36 ∨ o.code = 37
  · rw [does_jump h, does_jump (by rw [shift_code]; exact h)]
  · unfold shiftO; rw [if_neg h]
theorem shift_n {o : OpA} {a : Int} (h : o.code = 36 ∨ o.code = 37) (hr : inR (o.n + a)) : (shiftO a o).n = o.n + a := by
  unfold shiftO; rw [if_pos h]; exact IntWalk.i64_in _ hr
/-- A step over more of a stack, of an operation behind others. -/
theorem stepP_more {len : Int} {o : OpA} {lo st : List ValA} {at_ a : Int} (ho : okOp len o = true) (hlen : len ≤ 64) (ha : 0 ≤ a ∧ a ≤ 64) (h0 : (stepP i o st at_).2.2 = 0) :
    (stepP i (shiftO a o) (lo ++ st) (a + at_)).2.2 = 43 ∨ stepP i (shiftO a o) (lo ++ st) (a + at_) = (lo ++ (stepP i o st at_).1, a + (stepP i o st at_).2.1, 0) := by
  rw [okOp_iff] at ho
  unfold stepP at *
  rw [shift_code]
  split at h0
  · cases h0
  rename_i h1
  rw [if_neg h1, if_neg (by simp; omega)]
  have e1 : (lo ++ st).take ((lo ++ st).length - (takesL o.code).length) = lo ++ st.take (st.length - (takesL o.code).length) := by
    rw [List.length_append, show lo.length + st.length - (takesL o.code).length = lo.length + (st.length - (takesL o.code).length) by omega, List.take_length_add_append]
  have e2 : (lo ++ st).drop ((lo ++ st).length - (takesL o.code).length) = st.drop (st.length - (takesL o.code).length) := by
    rw [List.length_append, show lo.length + st.length - (takesL o.code).length = lo.length + (st.length - (takesL o.code).length) by omega, List.drop_length_add_append]
  rw [e1, e2]
  generalize st.drop (st.length - (takesL o.code).length) = l at *
  generalize st.take (st.length - (takesL o.code).length) = lo' at *
  unfold stepL at *
  rw [shift_code, does_shift]
  split at h0
  · cases h0
  rename_i h2
  rw [if_neg h2, if_neg h2]
  split at h0
  · rename_i h3; exact absurd h0 h3
  rename_i h3
  rw [if_neg h3, if_neg h3]
  split at h0
  · cases h0
  rename_i h4
  rw [if_neg h4]
  by_cases h5 : 32 < (lo ++ lo').length + (doesL i o l).1.length
  · rw [if_pos h5]; exact .inl rfl
  · rw [if_neg h5]
    refine .inr ?_
    dsimp only
    rw [List.append_assoc]
    by_cases hj : o.code = 36 ∨ o.code = 37 ∧ (l.getD 0 vNone).n ≠ 0
    · rw [if_pos hj, if_pos hj, shift_n (by omega) (by unfold inR; omega)]
      congr 2; omega
    · rw [if_neg hj, if_neg hj]
      congr 2; omega
theorem run_mid (hok : Q.all (okOp Q.length) = true) (hP : P.length ≤ 64) (hQ : Q.length ≤ 64) {lo : List ValA} : ∀ {k : Nat} {st : List ValA} {at_ done : Int} {v : ValA} {n' d : Int}, 0 ≤ at_ → at_ ≤ Q.length → runGo Q i k st at_ done = (v, n', 0) →
    ∀ F : Nat, (n' - done).toNat ≤ F → (runGo (allOf P Q c) i F (lo ++ st) (P.length + at_) d).2.2 = 43 ∨ runGo (allOf P Q c) i F (lo ++ st) (P.length + at_) d = runGo (allOf P Q c) i (F - (n' - done).toNat) (lo ++ [v]) (P.length + Q.length) (d + (n' - done))
  | k, st, at_, done, v, n', d, h0, h1, h, F, hF => by
    by_cases he : (Q.length : Int) ≤ at_
    · rw [runGo_end he] at h
      split at h
      · rename_i hl
        injection h with e1 e2
        injection e2 with e2 _
        subst e2
        obtain rfl : at_ = Q.length := by omega
        match st, hl with
        | [x], _ =>
          have : x = v := e1
          subst this
          rw [Int.sub_self]
          exact .inr (by simp)
      · injection h with _ h; injection h with _ h; cases h
    · cases k with
      | zero => rw [runGo, if_neg he] at h; injection h with _ h; injection h with _ h; cases h
      | succ k =>
        rw [runGo, if_neg he] at h
        split at h
        · rename_i hne; injection h with _ h; injection h with _ h; exact absurd h hne
        · rename_i hz
          have hz : (stepP i (Q.getD at_.toNat ⟨0, 0, []⟩) st at_).2.2 = 0 := by simpa using hz
          have hop := okOp_get hok h0 (by omega)
          obtain ⟨g1, g2⟩ := stepP_at hop ⟨h0, by omega⟩ hz
          have hb := runGo_bounds (p := Q) (i := i) (k := k) (st := (stepP i (Q.getD at_.toNat ⟨0, 0, []⟩) st at_).1) (at_ := (stepP i (Q.getD at_.toNat ⟨0, 0, []⟩) st at_).2.1) (done := done + 1)
          rw [h] at hb
          dsimp only at hb
          obtain ⟨F', rfl⟩ : ∃ F', F = F' + 1 := ⟨F - 1, by omega⟩
          have hget : (allOf P Q c).getD (P.length + at_).toNat ⟨0, 0, []⟩ = shiftO P.length (Q.getD at_.toNat ⟨0, 0, []⟩) := by
            rw [show ((P.length : Int) + at_).toNat = P.length + at_.toNat by omega]
            exact all_mid (by omega)
          rw [runGo, if_neg (by rw [all_len]; omega), hget]
          rcases stepP_more (i := i) (lo := lo) (a := P.length) hop (by omega) (by omega) hz with hs | hs
          · rw [if_pos (by rw [hs]; decide)]
            exact .inl hs
          · rw [hs]
            dsimp only
            rw [if_neg (by simp)]
            rcases run_mid hok hP hQ (lo := lo) (d := d + 1) g1 g2 h F' (by omega) with hr | hr
            · exact .inl hr
            · refine .inr ?_
              rw [hr]
              congr 1 <;> omega
end Go.Ev

set_option linter.unusedVariables false
set_option linter.unusedSimpArgs false
namespace Go.Ev
open Go.Proofs
/-- An operation that takes two values and puts one. -/
def Two (c : Int) : Prop := c = 10 ∨ c = 11 ∨ c = 12 ∨ c = 13 ∨ c = 14 ∨ c = 15 ∨ c = 16 ∨ c = 18 ∨ c = 19 ∨ c = 20 ∨ c = 21 ∨ c = 23 ∨ c = 26 ∨ c = 29 ∨ c = 30
theorem two_len {c : Int} (h : Two c) : (takesL c).length = 2 := by
  rcases h with h | h | h | h | h | h | h | h | h | h | h | h | h | h | h <;> subst h <;> rfl
theorem two_does {c : Int} (h : Two c) {i : InA} {A B : ValA} : doesL i ⟨c, 0, []⟩ [A, B] = ([(oneF c A B vNone).1], (oneF c A B vNone).2) := by
  unfold Two at h
  unfold doesL doesF
  rw [if_neg (by dsimp only; omega), if_neg (by dsimp only; omega), if_neg (by dsimp only; omega), if_neg (by dsimp only; omega), if_neg (by dsimp only; omega), if_neg (by dsimp only; omega), if_neg (by dsimp only; omega), if_neg (by dsimp only; omega), if_neg (by dsimp only; omega), if_neg (by dsimp only; omega), if_neg (by dsimp only; omega), if_neg (by dsimp only; omega)]
  rfl
/-- What the last operation comes to. -/
def lastF (c : Int) (A B : ValA) (st : List ValA) (at_ : Int) : List ValA × Int × Int :=
  if fitsL [A, B] (takesL c) = false then (st, at_, 42) else if (oneF c A B vNone).2 ≠ 0 then (st, at_, (oneF c A B vNone).2) else ([(oneF c A B vNone).1], at_ + 1, 0)
theorem two_step {c : Int} (h : Two c) {i : InA} {A B : ValA} {at_ : Int} : stepP i ⟨c, 0, []⟩ [A, B] at_ = lastF c A B [A, B] at_ := by
  have hl := two_len h
  unfold stepP
  dsimp only
  rw [hl, if_neg (by simp)]
  show stepL i ⟨c, 0, []⟩ [] [A, B] at_ = _
  unfold stepL lastF
  rw [two_does h]
  dsimp only
  rw [if_neg (show ¬ 32 < ([] : List ValA).length + [(oneF c A B vNone).1].length by simp)]
  have hj : ¬ (c = 36 ∨ c = 37 ∧ ([A, B].getD 0 vNone).n ≠ 0) := by unfold Two at h; omega
  rw [if_neg hj]
  rfl
def endF (c : Int) (A B : ValA) (d : Int) : ValA × Int × Int := if (lastF c A B [A, B] 0).2.2 ≠ 0 then (vNone, d, (lastF c A B [A, B] 0).2.2) else ((oneF c A B vNone).1, d + 1, 0)
theorem lastF_err {c : Int} {A B : ValA} {at_ a2 : Int} {st s2 : List ValA} : (lastF c A B st at_).2.2 = (lastF c A B s2 a2).2.2 := by
  unfold lastF; split
  · rfl
  · split <;> rfl
theorem lastF_ok {c : Int} {A B : ValA} {at_ : Int} {st : List ValA} (h : (lastF c A B st at_).2.2 = 0) : lastF c A B st at_ = ([(oneF c A B vNone).1], at_ + 1, 0) := by
  unfold lastF at *
  split at h
  · cases h
  · rename_i h1
    rw [if_neg h1]
    split at h
    · rename_i h2; exact absurd h h2
    · rename_i h2; rw [if_neg h2]
theorem run_two {p : List OpA} {c : Int} (h : Two c) {i : InA} {A B : ValA} {at_ d : Int} {F : Nat} (hlt : ¬ (p.length : Int) ≤ at_) (hlast : (p.length : Int) ≤ at_ + 1) (hget : p.getD at_.toNat ⟨0, 0, []⟩ = ⟨c, 0, []⟩) : runGo p i (F + 1) [A, B] at_ d = endF c A B d := by
  rw [runGo, if_neg hlt, hget, two_step h]
  unfold endF
  have he := lastF_err (c := c) (A := A) (B := B) (at_ := at_) (a2 := 0) (st := [A, B]) (s2 := [A, B])
  by_cases h0 : (lastF c A B [A, B] at_).2.2 = 0
  · rw [if_neg (by rw [h0]; simp), if_neg (by rw [← he, h0]; simp), lastF_ok h0, runGo_end hlast]
    rfl
  · rw [if_pos h0, if_pos (by rw [← he]; exact h0), he]
theorem runGo_go {p : List OpA} {i : InA} {o : OpA} {k : Nat} {st s' : List ValA} {at_ a' done : Int} (h : ¬ (p.length : Int) ≤ at_) (hg : p.getD at_.toNat ⟨0, 0, []⟩ = o) (hs : stepP i o st at_ = (s', a', 0)) : runGo p i (k + 1) st at_ done = runGo p i k s' a' (done + 1) := by
  rw [runGo, if_neg h, hg, hs]
  rfl
theorem okOp_two {len c : Int} (h : Two c) : okOp len ⟨c, 0, []⟩ = true := by
  rw [okOp_iff]
  unfold Two at h
  have h1 : 1 ≤ c := by omega
  have h2 : c ≤ 37 := by omega
  have h3 : ¬ 36 ≤ c := by omega
  exact ⟨h1, h2, fun h => absurd h h3, fun _ _ => rfl, fun _ => rfl, by simp⟩
theorem runGo_ok {p : List OpA} {i : InA} (hi : InOk i) (hok : p.all (okOp p.length) = true) (h64 : p.length ≤ 64) (hn : ∀ o ∈ p, inR o.n) : ∀ {k : Nat} {st : List ValA} {at_ done : Int}, (∀ v ∈ st, okV v) → 0 ≤ at_ → okV (runGo p i k st at_ done).1
  | k, st, at_, done, hst, h0 => by
    by_cases he : (p.length : Int) ≤ at_
    · rw [runGo_end he]
      split
      · cases st with
        | nil => exact ok_none
        | cons v l => exact hst v (by simp)
      · exact ok_none
    · cases k with
      | zero => rw [runGo, if_neg he]; exact ok_none
      | succ k =>
        rw [runGo, if_neg he]
        split
        · exact ok_none
        · rename_i hz
          have hz : (stepP i (p.getD at_.toNat ⟨0, 0, []⟩) st at_).2.2 = 0 := by simpa using hz
          have hmem : p.getD at_.toNat ⟨0, 0, []⟩ ∈ p := by
            rw [List.getD_eq_getElem?_getD, List.getElem?_eq_getElem (by omega)]
            exact List.getElem_mem _
          obtain ⟨g1, _, g3, _⟩ := stepP_ok hi (okOp_get hok h0 (by omega)) (by omega) (hn _ hmem) hst ⟨h0, by omega⟩ hz
          exact runGo_ok hi hok h64 hn g1 g3
theorem check_all {p : List OpA} (h : checkL p = 0) : 1 ≤ p.length ∧ p.length ≤ 64 ∧ p.all (okOp p.length) = true := by
  unfold checkL at h
  split at h
  · assumption
  · cases h
theorem may_ok {p : List OpA} {i : InA} (h : mayRun p i) (hv : inR i.value.n) (ho : inR i.old.n) (hs : inR i.side.n) (ht : inR i.time) (hn : inR i.now) : InOk i := ⟨h.2.1, ⟨h.2.2.1, hv⟩, ⟨h.2.2.2.1, ho⟩, ⟨h.2.2.2.2, hs⟩, ht, hn⟩
theorem check_join {P Q : List OpA} {c : Int} (hP : checkL P = 0) (hQ : checkL Q = 0) (hc : Two c) (hl : P.length + Q.length + 1 ≤ 64) : checkL (allOf P Q c) = 0 := by
  obtain ⟨p1, p2, p3⟩ := check_all hP
  obtain ⟨q1, q2, q3⟩ := check_all hQ
  rw [checkL, if_pos]
  refine ⟨by rw [all_len]; omega, by rw [all_len]; omega, List.all_eq_true.2 fun o ho => ?_⟩
  rw [all_len]
  unfold allOf at ho
  rw [List.mem_append, List.mem_append] at ho
  rcases ho with ho | ho | ho
  · have := okOp_iff.1 (List.all_eq_true.1 p3 o ho)
    rw [okOp_iff]; omega
  · obtain ⟨q, hq, rfl⟩ := List.mem_map.1 ho
    have := okOp_iff.1 (List.all_eq_true.1 q3 q hq)
    rw [okOp_iff, shift_code]
    by_cases hj : q.code = 36 ∨ q.code = 37
    · have hs : (shiftO P.length q).s = q.s := by unfold shiftO; split <;> rfl
      rw [shift_n hj (by unfold inR; omega), hs]; omega
    · have : shiftO P.length q = q := by unfold shiftO; rw [if_neg hj]
      rw [this]; omega
  · rw [List.mem_singleton.1 ho]; exact okOp_two hc
theorem joins_pure {P Q : List OpA} {c : Int} {i : InA} {A B : ValA} {n m : Int} (hP : mayRun P i) (hQ : mayRun Q i) (hi : InOk i) (hnP : ∀ o ∈ P, inR o.n) (hnQ : ∀ o ∈ Q, inR o.n) (hc : Two c) (hl : P.length + Q.length + 1 ≤ 64)
    (h1 : runL P i 300 = (A, n, 0)) (h2 : runL Q i 300 = (B, m, 0)) :
    (runL (allOf P Q c) i 1000).2.2 = 43 ∨ (runL (allOf P Q c) i 1000 = endF c A B (n + m) ∧ runL [⟨8, 0, []⟩, ⟨9, 0, []⟩, ⟨c, 0, []⟩] ⟨[], vNone, 0, 0, A, B⟩ 10 = endF c A B 2) := by
  obtain ⟨p1, p2, p3⟩ := check_all hP.1
  obtain ⟨q1, q2, q3⟩ := check_all hQ.1
  have hb1 := runL_bounds hP (k := 300) (by omega) (by omega)
  have hb2 := runL_bounds hQ (k := 300) (by omega) (by omega)
  rw [h1] at hb1
  rw [h2] at hb2
  dsimp only at hb1 hb2
  have hall : mayRun (allOf P Q c) i := ⟨check_join hP.1 hQ.1 hc hl, hP.2⟩
  rw [runL_go hP (by omega) (by omega)] at h1
  rw [runL_go hQ (by omega) (by omega)] at h2
  have okA : okV A := by have := runGo_ok hi p3 p2 hnP (k := (300 : Int).toNat) (st := []) (at_ := 0) (done := 0) (by simp) (by omega); rw [h1] at this; exact this
  have okB : okV B := by have := runGo_ok hi q3 q2 hnQ (k := (300 : Int).toNat) (st := []) (at_ := 0) (done := 0) (by simp) (by omega); rw [h2] at this; exact this
  rw [runL_go hall (by omega) (by omega), run_pre (c := c) (Q := Q) p3 (by omega) (by omega) h1 _ (by omega)]
  rcases run_mid (c := c) (P := P) (i := i) q3 p2 q2 (lo := [A]) (d := n) (by omega) (by omega) h2 ((1000 : Int).toNat - (n - 0).toNat) (by omega) with h | h
  · exact .inl (by simpa using h)
  · refine .inr ⟨?_, ?_⟩
    · simp only [List.append_nil, Int.add_zero] at h
      rw [h]
      obtain ⟨F, hF⟩ : ∃ F, (1000 : Int).toNat - (n - 0).toNat - (m - 0).toNat = F + 1 := ⟨(1000 : Int).toNat - (n - 0).toNat - (m - 0).toNat - 1, by omega⟩
      rw [hF, Int.sub_zero]
      exact run_two hc (by rw [all_len]; omega) (by rw [all_len]; omega) (by
        rw [show ((P.length : Int) + Q.length).toNat = P.length + Q.length by omega]; exact all_hi)
    · have hm : mayRun [⟨8, 0, []⟩, ⟨9, 0, []⟩, ⟨c, 0, []⟩] ⟨[], vNone, 0, 0, A, B⟩ := by
        refine ⟨?_, by simp, rfl, okA.1, okB.1⟩
        rw [checkL, if_pos]
        refine ⟨by simp, by simp, List.all_eq_true.2 fun o ho => ?_⟩
        simp only [List.mem_cons, List.not_mem_nil, or_false] at ho
        rcases ho with rfl | rfl | rfl
        · rfl
        · rfl
        · exact okOp_two hc
      rw [runL_go hm (by omega) (by omega)]
      show runGo _ _ 10 [] 0 0 = _
      have e1 : stepP ⟨[], vNone, 0, 0, A, B⟩ ⟨8, 0, []⟩ [] 0 = ([A], 1, 0) := rfl
      have e2 : stepP ⟨[], vNone, 0, 0, A, B⟩ ⟨9, 0, []⟩ [A] 1 = ([A, B], 2, 0) := rfl
      rw [runGo_go (o := ⟨8, 0, []⟩) (by simp) rfl e1, runGo_go (o := ⟨9, 0, []⟩) (by simp) rfl e2]
      exact run_two hc (by simp) (by simp) rfl
end Go.Ev

set_option linter.unusedVariables false
set_option linter.unusedSimpArgs false
namespace Go.Ev
open Go.Proofs
variable {P : Program} {n0 : Nat}
theorem drw_stop2 {k : DK} {t : List (Nat × AV)} {b : Mem} {n m : Nat} (t' : List (Nat × AV)) (hk : Stop (@Drw P n0 k .mk ⟨t', b, n, m⟩))
    (ht : subL t' t := by first | (simp (maxSteps := 1000000) (disch := omega) only [push_cast, go_sem, simprocAttr, *]; done) | fail) : @Drw P n0 k .mk ⟨t, b, n, m⟩ := by
  have hw : Weak n0 ⟨t, b, n, m⟩ ⟨t', b, n, m⟩ := .drop rfl (fun k v hv => .inr (subL_look ht k v hv)) (List.Sublist.refl _) (Nat.le_refl _)
  rcases hk with hk | ⟨s', hw', hk⟩
  · exact .inr ⟨_, hw, hk⟩
  · exact .inr ⟨_, hw.trans hw', hk⟩
/-- Facts that simp shall not see. -/
structure Pk (p : Prop) : Prop where
  get : p
structure Key (G : Int → Prop) : Prop where
  get : ∀ c, Two c → G c
theorem absorb {X : Prop} (G : Int → Prop) (m : Key G → X) (k : ∀ c, Two c → G c) : X := m ⟨k⟩
theorem runL_may {p : List OpA} {i : InA} {k : Int} (h : (runL p i k).2.2 = 0) : mayRun p i := by
  unfold runL at h
  split at h
  · cases h
  · rename_i h1
    split at h
    · cases h
    · rename_i h2
      simp only [not_or, Bool.not_eq_false] at h2
      exact ⟨by simpa using h1, by omega, h2.2.2.2.1, h2.2.2.2.2.1, h2.2.2.2.2.2⟩
theorem runL_inR {p : List OpA} {i : InA} {k : Int} (hn : ∀ o ∈ p, inR o.n) (hv : inR i.value.n) (ho : inR i.old.n) (hs : inR i.side.n) (ht : inR i.time) (hnow : inR i.now) (h : (runL p i k).2.2 = 0) : inR (runL p i k).1.n := by
  have hm := runL_may h
  obtain ⟨p1, p2, p3⟩ := check_all hm.1
  have hi := may_ok hm hv ho hs ht hnow
  unfold runL
  split
  · exact ok_none.2
  · split
    · exact ok_none.2
    · exact (runGo_ok hi p3 p2 hn (by simp) (by omega)).2
theorem all_inR {P Q : List OpA} {c : Int} (hP : ∀ o ∈ P, inR o.n) (hQ : ∀ o ∈ Q, inR o.n) : ∀ o ∈ allOf P Q c, inR o.n := fun o ho => by
  unfold allOf at ho
  rw [List.mem_append, List.mem_append] at ho
  rcases ho with ho | ho | ho
  · exact hP o ho
  · obtain ⟨q, hq, rfl⟩ := List.mem_map.1 ho
    unfold shiftO
    split
    · exact inR_wrap _
    · exact hQ q hq
  · rw [List.mem_singleton.1 ho]; exact ok_none.2
theorem all_get {P Q : List OpA} {c : Int} {k : Nat} (h : k < Q.length) (h' : P.length + k < (allOf P Q c).length) : (allOf P Q c)[P.length + k] = shiftO P.length Q[k] := by
  have := all_mid (P := P) (c := c) h
  rw [List.getD_eq_getElem?_getD, List.getElem?_eq_getElem h', List.getD_eq_getElem?_getD, List.getElem?_eq_getElem h] at this
  exact this
end Go.Ev
