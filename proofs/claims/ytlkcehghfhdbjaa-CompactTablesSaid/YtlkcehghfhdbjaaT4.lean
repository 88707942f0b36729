import Derived.Test.YtlkcehghfhdbjaaProg
import Derived.KernelRfl
import Derived.IntWalk
import Derived.WalkKit
import Derived.Lib.Walk
import Derived.Lib.SliceRun
import Derived.Lib.JoinLaws
import Derived.Lib.AppendZeros
import Derived.Lib.AppendZerosOnto
import Derived.Lib.Overlaps
import Derived.Laws.Externs
import Derived.Laws.IdiomCopy
import Derived.Laws.NewBlocks
import Derived.Shelf.RegionOpenPlain
import Derived.Test.YtlkcehghfhdbjaaT3
set_option linter.unusedVariables false
set_option linter.unusedSimpArgs false
/-
Type facts of the seat's program, printed by Facts.lean.
-/
set_option linter.unusedVariables false
namespace Go.Ev
open Go.Proofs
@[push_cast] theorem k0 : kindT Try.prog 0 = TK.other := by kernel_rfl
@[push_cast] theorem s0 : szT Try.prog 0 = 1 := by kernel_rfl
@[push_cast] theorem a0 : aggO Try.prog 0 = some false := by kernel_rfl
@[push_cast] theorem b0 : byT Try.prog 0 = 0 := by kernel_rfl
@[push_cast] theorem z0 : zeroT Try.prog 0 = AV.undef := by kernel_rfl
@[push_cast] theorem zk0 : zok Try.prog 0 = true := by kernel_rfl
@[push_cast] theorem bt0 : boolT Try.prog 0 = false := by kernel_rfl
@[push_cast] theorem pt0 : ptrT Try.prog 0 = false := by kernel_rfl
@[push_cast] theorem lt0 : leavesT Try.prog 0 = none := by kernel_rfl
@[push_cast] theorem k1 : kindT Try.prog 1 = TK.other := by kernel_rfl
@[push_cast] theorem s1 : szT Try.prog 1 = 1 := by kernel_rfl
@[push_cast] theorem a1 : aggO Try.prog 1 = some false := by kernel_rfl
@[push_cast] theorem b1 : byT Try.prog 1 = 8 := by kernel_rfl
@[push_cast] theorem z1 : zeroT Try.prog 1 = AV.nilf := by kernel_rfl
@[push_cast] theorem zk1 : zok Try.prog 1 = true := by kernel_rfl
@[push_cast] theorem bt1 : boolT Try.prog 1 = false := by kernel_rfl
@[push_cast] theorem pt1 : ptrT Try.prog 1 = false := by kernel_rfl
@[push_cast] theorem lt1 : leavesT Try.prog 1 = none := by kernel_rfl
@[push_cast] theorem k2 : kindT Try.prog 2 = TK.int IntKind.i64 := by kernel_rfl
@[push_cast] theorem s2 : szT Try.prog 2 = 1 := by kernel_rfl
@[push_cast] theorem a2 : aggO Try.prog 2 = some false := by kernel_rfl
@[push_cast] theorem b2 : byT Try.prog 2 = 8 := by kernel_rfl
@[push_cast] theorem z2 : zeroT Try.prog 2 = AV.int IntKind.i64 0 := by kernel_rfl
@[push_cast] theorem zk2 : zok Try.prog 2 = true := by kernel_rfl
@[push_cast] theorem bt2 : boolT Try.prog 2 = false := by kernel_rfl
@[push_cast] theorem pt2 : ptrT Try.prog 2 = false := by kernel_rfl
@[push_cast] theorem lt2 : leavesT Try.prog 2 = none := by kernel_rfl
@[push_cast] theorem k3 : kindT Try.prog 3 = TK.int IntKind.i64 := by kernel_rfl
@[push_cast] theorem s3 : szT Try.prog 3 = 1 := by kernel_rfl
@[push_cast] theorem a3 : aggO Try.prog 3 = some false := by kernel_rfl
@[push_cast] theorem b3 : byT Try.prog 3 = 8 := by kernel_rfl
@[push_cast] theorem z3 : zeroT Try.prog 3 = AV.int IntKind.i64 0 := by kernel_rfl
@[push_cast] theorem zk3 : zok Try.prog 3 = true := by kernel_rfl
@[push_cast] theorem bt3 : boolT Try.prog 3 = false := by kernel_rfl
@[push_cast] theorem pt3 : ptrT Try.prog 3 = false := by kernel_rfl
@[push_cast] theorem lt3 : leavesT Try.prog 3 = none := by kernel_rfl
@[push_cast] theorem k4 : kindT Try.prog 4 = TK.bool := by kernel_rfl
@[push_cast] theorem s4 : szT Try.prog 4 = 1 := by kernel_rfl
@[push_cast] theorem a4 : aggO Try.prog 4 = some false := by kernel_rfl
@[push_cast] theorem b4 : byT Try.prog 4 = 1 := by kernel_rfl
@[push_cast] theorem z4 : zeroT Try.prog 4 = AV.bool false := by kernel_rfl
@[push_cast] theorem zk4 : zok Try.prog 4 = true := by kernel_rfl
@[push_cast] theorem bt4 : boolT Try.prog 4 = true := by kernel_rfl
@[push_cast] theorem pt4 : ptrT Try.prog 4 = false := by kernel_rfl
@[push_cast] theorem lt4 : leavesT Try.prog 4 = none := by kernel_rfl
@[push_cast] theorem k5 : kindT Try.prog 5 = TK.int IntKind.u8 := by kernel_rfl
@[push_cast] theorem s5 : szT Try.prog 5 = 1 := by kernel_rfl
@[push_cast] theorem a5 : aggO Try.prog 5 = some false := by kernel_rfl
@[push_cast] theorem b5 : byT Try.prog 5 = 1 := by kernel_rfl
@[push_cast] theorem z5 : zeroT Try.prog 5 = AV.int IntKind.u8 0 := by kernel_rfl
@[push_cast] theorem zk5 : zok Try.prog 5 = true := by kernel_rfl
@[push_cast] theorem bt5 : boolT Try.prog 5 = false := by kernel_rfl
@[push_cast] theorem pt5 : ptrT Try.prog 5 = false := by kernel_rfl
@[push_cast] theorem lt5 : leavesT Try.prog 5 = none := by kernel_rfl
@[push_cast] theorem k6 : kindT Try.prog 6 = TK.int IntKind.u8 := by kernel_rfl
@[push_cast] theorem s6 : szT Try.prog 6 = 1 := by kernel_rfl
@[push_cast] theorem a6 : aggO Try.prog 6 = some false := by kernel_rfl
@[push_cast] theorem b6 : byT Try.prog 6 = 1 := by kernel_rfl
@[push_cast] theorem z6 : zeroT Try.prog 6 = AV.int IntKind.u8 0 := by kernel_rfl
@[push_cast] theorem zk6 : zok Try.prog 6 = true := by kernel_rfl
@[push_cast] theorem bt6 : boolT Try.prog 6 = false := by kernel_rfl
@[push_cast] theorem pt6 : ptrT Try.prog 6 = false := by kernel_rfl
@[push_cast] theorem lt6 : leavesT Try.prog 6 = none := by kernel_rfl
@[push_cast] theorem k7 : kindT Try.prog 7 = TK.struct := by kernel_rfl
@[push_cast] theorem s7 : szT Try.prog 7 = 4 := by kernel_rfl
@[push_cast] theorem a7 : aggO Try.prog 7 = some true := by kernel_rfl
@[push_cast] theorem b7 : byT Try.prog 7 = 24 := by kernel_rfl
@[push_cast] theorem z7 : zeroT Try.prog 7 = AV.agg [AV.int IntKind.i64 0, AV.int IntKind.i64 0, AV.bool false, AV.int IntKind.u8 0] := by kernel_rfl
@[push_cast] theorem zk7 : zok Try.prog 7 = true := by kernel_rfl
@[push_cast] theorem bt7 : boolT Try.prog 7 = false := by kernel_rfl
@[push_cast] theorem pt7 : ptrT Try.prog 7 = false := by kernel_rfl
@[push_cast] theorem lt7 : leavesT Try.prog 7 = some [LK.int IntKind.i64, LK.int IntKind.i64, LK.bool, LK.int IntKind.u8] := by kernel_rfl
@[push_cast] theorem fo7 : fieldsOk Try.prog 7 = true := by kernel_rfl
@[push_cast] theorem o7_0 : offT Try.prog 7 0 = some 0 := by kernel_rfl
@[push_cast] theorem f7_0 : fszT Try.prog 7 0 = 1 := by kernel_rfl
@[push_cast] theorem o7_1 : offT Try.prog 7 1 = some 1 := by kernel_rfl
@[push_cast] theorem f7_1 : fszT Try.prog 7 1 = 1 := by kernel_rfl
@[push_cast] theorem o7_2 : offT Try.prog 7 2 = some 2 := by kernel_rfl
@[push_cast] theorem f7_2 : fszT Try.prog 7 2 = 1 := by kernel_rfl
@[push_cast] theorem o7_3 : offT Try.prog 7 3 = some 3 := by kernel_rfl
@[push_cast] theorem f7_3 : fszT Try.prog 7 3 = 1 := by kernel_rfl
@[push_cast] theorem k8 : kindT Try.prog 8 = TK.struct := by kernel_rfl
@[push_cast] theorem s8 : szT Try.prog 8 = 4 := by kernel_rfl
@[push_cast] theorem a8 : aggO Try.prog 8 = some true := by kernel_rfl
@[push_cast] theorem b8 : byT Try.prog 8 = 24 := by kernel_rfl
@[push_cast] theorem z8 : zeroT Try.prog 8 = AV.agg [AV.int IntKind.i64 0, AV.int IntKind.i64 0, AV.bool false, AV.int IntKind.u8 0] := by kernel_rfl
@[push_cast] theorem zk8 : zok Try.prog 8 = true := by kernel_rfl
@[push_cast] theorem bt8 : boolT Try.prog 8 = false := by kernel_rfl
@[push_cast] theorem pt8 : ptrT Try.prog 8 = false := by kernel_rfl
@[push_cast] theorem lt8 : leavesT Try.prog 8 = some [LK.int IntKind.i64, LK.int IntKind.i64, LK.bool, LK.int IntKind.u8] := by kernel_rfl
@[push_cast] theorem fo8 : fieldsOk Try.prog 8 = true := by kernel_rfl
@[push_cast] theorem o8_0 : offT Try.prog 8 0 = some 0 := by kernel_rfl
@[push_cast] theorem f8_0 : fszT Try.prog 8 0 = 1 := by kernel_rfl
@[push_cast] theorem o8_1 : offT Try.prog 8 1 = some 1 := by kernel_rfl
@[push_cast] theorem f8_1 : fszT Try.prog 8 1 = 1 := by kernel_rfl
@[push_cast] theorem o8_2 : offT Try.prog 8 2 = some 2 := by kernel_rfl
@[push_cast] theorem f8_2 : fszT Try.prog 8 2 = 1 := by kernel_rfl
@[push_cast] theorem o8_3 : offT Try.prog 8 3 = some 3 := by kernel_rfl
@[push_cast] theorem f8_3 : fszT Try.prog 8 3 = 1 := by kernel_rfl
@[push_cast] theorem k9 : kindT Try.prog 9 = TK.str := by kernel_rfl
@[push_cast] theorem s9 : szT Try.prog 9 = 1 := by kernel_rfl
@[push_cast] theorem a9 : aggO Try.prog 9 = some false := by kernel_rfl
@[push_cast] theorem b9 : byT Try.prog 9 = 16 := by kernel_rfl
@[push_cast] theorem z9 : zeroT Try.prog 9 = AV.str ⟨#[]⟩ := by kernel_rfl
@[push_cast] theorem zk9 : zok Try.prog 9 = true := by kernel_rfl
@[push_cast] theorem bt9 : boolT Try.prog 9 = false := by kernel_rfl
@[push_cast] theorem pt9 : ptrT Try.prog 9 = false := by kernel_rfl
@[push_cast] theorem lt9 : leavesT Try.prog 9 = none := by kernel_rfl
@[push_cast] theorem k10 : kindT Try.prog 10 = TK.str := by kernel_rfl
@[push_cast] theorem s10 : szT Try.prog 10 = 1 := by kernel_rfl
@[push_cast] theorem a10 : aggO Try.prog 10 = some false := by kernel_rfl
@[push_cast] theorem b10 : byT Try.prog 10 = 16 := by kernel_rfl
@[push_cast] theorem z10 : zeroT Try.prog 10 = AV.str ⟨#[]⟩ := by kernel_rfl
@[push_cast] theorem zk10 : zok Try.prog 10 = true := by kernel_rfl
@[push_cast] theorem bt10 : boolT Try.prog 10 = false := by kernel_rfl
@[push_cast] theorem pt10 : ptrT Try.prog 10 = false := by kernel_rfl
@[push_cast] theorem lt10 : leavesT Try.prog 10 = none := by kernel_rfl
@[push_cast] theorem k11 : kindT Try.prog 11 = TK.str := by kernel_rfl
@[push_cast] theorem s11 : szT Try.prog 11 = 1 := by kernel_rfl
@[push_cast] theorem a11 : aggO Try.prog 11 = some false := by kernel_rfl
@[push_cast] theorem b11 : byT Try.prog 11 = 16 := by kernel_rfl
@[push_cast] theorem z11 : zeroT Try.prog 11 = AV.str ⟨#[]⟩ := by kernel_rfl
@[push_cast] theorem zk11 : zok Try.prog 11 = true := by kernel_rfl
@[push_cast] theorem bt11 : boolT Try.prog 11 = false := by kernel_rfl
@[push_cast] theorem pt11 : ptrT Try.prog 11 = false := by kernel_rfl
@[push_cast] theorem lt11 : leavesT Try.prog 11 = none := by kernel_rfl
@[push_cast] theorem k12 : kindT Try.prog 12 = TK.int IntKind.u64 := by kernel_rfl
@[push_cast] theorem s12 : szT Try.prog 12 = 1 := by kernel_rfl
@[push_cast] theorem a12 : aggO Try.prog 12 = some false := by kernel_rfl
@[push_cast] theorem b12 : byT Try.prog 12 = 8 := by kernel_rfl
@[push_cast] theorem z12 : zeroT Try.prog 12 = AV.int IntKind.u64 0 := by kernel_rfl
@[push_cast] theorem zk12 : zok Try.prog 12 = true := by kernel_rfl
@[push_cast] theorem bt12 : boolT Try.prog 12 = false := by kernel_rfl
@[push_cast] theorem pt12 : ptrT Try.prog 12 = false := by kernel_rfl
@[push_cast] theorem lt12 : leavesT Try.prog 12 = none := by kernel_rfl
@[push_cast] theorem k13 : kindT Try.prog 13 = TK.struct := by kernel_rfl
@[push_cast] theorem s13 : szT Try.prog 13 = 2 := by kernel_rfl
@[push_cast] theorem a13 : aggO Try.prog 13 = some true := by kernel_rfl
@[push_cast] theorem b13 : byT Try.prog 13 = 24 := by kernel_rfl
@[push_cast] theorem z13 : zeroT Try.prog 13 = AV.agg [AV.str ⟨#[]⟩, AV.int IntKind.u64 0] := by kernel_rfl
@[push_cast] theorem zk13 : zok Try.prog 13 = true := by kernel_rfl
@[push_cast] theorem bt13 : boolT Try.prog 13 = false := by kernel_rfl
@[push_cast] theorem pt13 : ptrT Try.prog 13 = false := by kernel_rfl
@[push_cast] theorem lt13 : leavesT Try.prog 13 = none := by kernel_rfl
@[push_cast] theorem fo13 : fieldsOk Try.prog 13 = true := by kernel_rfl
@[push_cast] theorem o13_0 : offT Try.prog 13 0 = some 0 := by kernel_rfl
@[push_cast] theorem f13_0 : fszT Try.prog 13 0 = 1 := by kernel_rfl
@[push_cast] theorem o13_1 : offT Try.prog 13 1 = some 1 := by kernel_rfl
@[push_cast] theorem f13_1 : fszT Try.prog 13 1 = 1 := by kernel_rfl
@[push_cast] theorem k14 : kindT Try.prog 14 = TK.struct := by kernel_rfl
@[push_cast] theorem s14 : szT Try.prog 14 = 2 := by kernel_rfl
@[push_cast] theorem a14 : aggO Try.prog 14 = some true := by kernel_rfl
@[push_cast] theorem b14 : byT Try.prog 14 = 24 := by kernel_rfl
@[push_cast] theorem z14 : zeroT Try.prog 14 = AV.agg [AV.str ⟨#[]⟩, AV.int IntKind.u64 0] := by kernel_rfl
@[push_cast] theorem zk14 : zok Try.prog 14 = true := by kernel_rfl
@[push_cast] theorem bt14 : boolT Try.prog 14 = false := by kernel_rfl
@[push_cast] theorem pt14 : ptrT Try.prog 14 = false := by kernel_rfl
@[push_cast] theorem lt14 : leavesT Try.prog 14 = none := by kernel_rfl
@[push_cast] theorem fo14 : fieldsOk Try.prog 14 = true := by kernel_rfl
@[push_cast] theorem o14_0 : offT Try.prog 14 0 = some 0 := by kernel_rfl
@[push_cast] theorem f14_0 : fszT Try.prog 14 0 = 1 := by kernel_rfl
@[push_cast] theorem o14_1 : offT Try.prog 14 1 = some 1 := by kernel_rfl
@[push_cast] theorem f14_1 : fszT Try.prog 14 1 = 1 := by kernel_rfl
@[push_cast] theorem k15 : kindT Try.prog 15 = TK.ptr 112 := by kernel_rfl
@[push_cast] theorem s15 : szT Try.prog 15 = 1 := by kernel_rfl
@[push_cast] theorem a15 : aggO Try.prog 15 = some false := by kernel_rfl
@[push_cast] theorem b15 : byT Try.prog 15 = 8 := by kernel_rfl
@[push_cast] theorem z15 : zeroT Try.prog 15 = AV.nilp := by kernel_rfl
@[push_cast] theorem zk15 : zok Try.prog 15 = true := by kernel_rfl
@[push_cast] theorem bt15 : boolT Try.prog 15 = false := by kernel_rfl
@[push_cast] theorem pt15 : ptrT Try.prog 15 = true := by kernel_rfl
@[push_cast] theorem lt15 : leavesT Try.prog 15 = none := by kernel_rfl
@[push_cast] theorem k16 : kindT Try.prog 16 = TK.ptr 115 := by kernel_rfl
@[push_cast] theorem s16 : szT Try.prog 16 = 1 := by kernel_rfl
@[push_cast] theorem a16 : aggO Try.prog 16 = some false := by kernel_rfl
@[push_cast] theorem b16 : byT Try.prog 16 = 8 := by kernel_rfl
@[push_cast] theorem z16 : zeroT Try.prog 16 = AV.nilp := by kernel_rfl
@[push_cast] theorem zk16 : zok Try.prog 16 = true := by kernel_rfl
@[push_cast] theorem bt16 : boolT Try.prog 16 = false := by kernel_rfl
@[push_cast] theorem pt16 : ptrT Try.prog 16 = true := by kernel_rfl
@[push_cast] theorem lt16 : leavesT Try.prog 16 = none := by kernel_rfl
@[push_cast] theorem k17 : kindT Try.prog 17 = TK.ptr 124 := by kernel_rfl
@[push_cast] theorem s17 : szT Try.prog 17 = 1 := by kernel_rfl
@[push_cast] theorem a17 : aggO Try.prog 17 = some false := by kernel_rfl
@[push_cast] theorem b17 : byT Try.prog 17 = 8 := by kernel_rfl
@[push_cast] theorem z17 : zeroT Try.prog 17 = AV.nilp := by kernel_rfl
@[push_cast] theorem zk17 : zok Try.prog 17 = true := by kernel_rfl
@[push_cast] theorem bt17 : boolT Try.prog 17 = false := by kernel_rfl
@[push_cast] theorem pt17 : ptrT Try.prog 17 = true := by kernel_rfl
@[push_cast] theorem lt17 : leavesT Try.prog 17 = none := by kernel_rfl
@[push_cast] theorem k18 : kindT Try.prog 18 = TK.struct := by kernel_rfl
@[push_cast] theorem s18 : szT Try.prog 18 = 1 := by kernel_rfl
@[push_cast] theorem a18 : aggO Try.prog 18 = some true := by kernel_rfl
@[push_cast] theorem b18 : byT Try.prog 18 = 8 := by kernel_rfl
@[push_cast] theorem z18 : zeroT Try.prog 18 = AV.agg [AV.nilp] := by kernel_rfl
@[push_cast] theorem zk18 : zok Try.prog 18 = true := by kernel_rfl
@[push_cast] theorem bt18 : boolT Try.prog 18 = false := by kernel_rfl
@[push_cast] theorem pt18 : ptrT Try.prog 18 = false := by kernel_rfl
@[push_cast] theorem lt18 : leavesT Try.prog 18 = none := by kernel_rfl
@[push_cast] theorem fo18 : fieldsOk Try.prog 18 = true := by kernel_rfl
@[push_cast] theorem o18_0 : offT Try.prog 18 0 = some 0 := by kernel_rfl
@[push_cast] theorem f18_0 : fszT Try.prog 18 0 = 1 := by kernel_rfl
@[push_cast] theorem k19 : kindT Try.prog 19 = TK.struct := by kernel_rfl
@[push_cast] theorem s19 : szT Try.prog 19 = 1 := by kernel_rfl
@[push_cast] theorem a19 : aggO Try.prog 19 = some true := by kernel_rfl
@[push_cast] theorem b19 : byT Try.prog 19 = 8 := by kernel_rfl
@[push_cast] theorem z19 : zeroT Try.prog 19 = AV.agg [AV.nilp] := by kernel_rfl
@[push_cast] theorem zk19 : zok Try.prog 19 = true := by kernel_rfl
@[push_cast] theorem bt19 : boolT Try.prog 19 = false := by kernel_rfl
@[push_cast] theorem pt19 : ptrT Try.prog 19 = false := by kernel_rfl
@[push_cast] theorem lt19 : leavesT Try.prog 19 = none := by kernel_rfl
@[push_cast] theorem fo19 : fieldsOk Try.prog 19 = true := by kernel_rfl
@[push_cast] theorem o19_0 : offT Try.prog 19 0 = some 0 := by kernel_rfl
@[push_cast] theorem f19_0 : fszT Try.prog 19 0 = 1 := by kernel_rfl
@[push_cast] theorem k20 : kindT Try.prog 20 = TK.other := by kernel_rfl
@[push_cast] theorem s20 : szT Try.prog 20 = 1 := by kernel_rfl
@[push_cast] theorem a20 : aggO Try.prog 20 = some false := by kernel_rfl
@[push_cast] theorem b20 : byT Try.prog 20 = 16 := by kernel_rfl
@[push_cast] theorem z20 : zeroT Try.prog 20 = AV.nili := by kernel_rfl
@[push_cast] theorem zk20 : zok Try.prog 20 = true := by kernel_rfl
@[push_cast] theorem bt20 : boolT Try.prog 20 = false := by kernel_rfl
@[push_cast] theorem pt20 : ptrT Try.prog 20 = false := by kernel_rfl
@[push_cast] theorem lt20 : leavesT Try.prog 20 = none := by kernel_rfl
@[push_cast] theorem k21 : kindT Try.prog 21 = TK.int IntKind.i32 := by kernel_rfl
@[push_cast] theorem s21 : szT Try.prog 21 = 1 := by kernel_rfl
@[push_cast] theorem a21 : aggO Try.prog 21 = some false := by kernel_rfl
@[push_cast] theorem b21 : byT Try.prog 21 = 4 := by kernel_rfl
@[push_cast] theorem z21 : zeroT Try.prog 21 = AV.int IntKind.i32 0 := by kernel_rfl
@[push_cast] theorem zk21 : zok Try.prog 21 = true := by kernel_rfl
@[push_cast] theorem bt21 : boolT Try.prog 21 = false := by kernel_rfl
@[push_cast] theorem pt21 : ptrT Try.prog 21 = false := by kernel_rfl
@[push_cast] theorem lt21 : leavesT Try.prog 21 = none := by kernel_rfl
@[push_cast] theorem k22 : kindT Try.prog 22 = TK.slice 75 := by kernel_rfl
@[push_cast] theorem s22 : szT Try.prog 22 = 1 := by kernel_rfl
@[push_cast] theorem a22 : aggO Try.prog 22 = some false := by kernel_rfl
@[push_cast] theorem b22 : byT Try.prog 22 = 24 := by kernel_rfl
@[push_cast] theorem z22 : zeroT Try.prog 22 = AV.olst 6 [] := by kernel_rfl
@[push_cast] theorem zk22 : zok Try.prog 22 = true := by kernel_rfl
@[push_cast] theorem bt22 : boolT Try.prog 22 = false := by kernel_rfl
@[push_cast] theorem pt22 : ptrT Try.prog 22 = false := by kernel_rfl
@[push_cast] theorem lt22 : leavesT Try.prog 22 = none := by kernel_rfl
@[push_cast] theorem k23 : kindT Try.prog 23 = TK.slice 36 := by kernel_rfl
@[push_cast] theorem s23 : szT Try.prog 23 = 1 := by kernel_rfl
@[push_cast] theorem a23 : aggO Try.prog 23 = some false := by kernel_rfl
@[push_cast] theorem b23 : byT Try.prog 23 = 24 := by kernel_rfl
@[push_cast] theorem z23 : zeroT Try.prog 23 = AV.olst 5 [] := by kernel_rfl
@[push_cast] theorem zk23 : zok Try.prog 23 = true := by kernel_rfl
@[push_cast] theorem bt23 : boolT Try.prog 23 = false := by kernel_rfl
@[push_cast] theorem pt23 : ptrT Try.prog 23 = false := by kernel_rfl
@[push_cast] theorem lt23 : leavesT Try.prog 23 = none := by kernel_rfl
@[push_cast] theorem k24 : kindT Try.prog 24 = TK.slice 77 := by kernel_rfl
@[push_cast] theorem s24 : szT Try.prog 24 = 1 := by kernel_rfl
@[push_cast] theorem a24 : aggO Try.prog 24 = some false := by kernel_rfl
@[push_cast] theorem b24 : byT Try.prog 24 = 24 := by kernel_rfl
@[push_cast] theorem z24 : zeroT Try.prog 24 = AV.olst 5 [] := by kernel_rfl
@[push_cast] theorem zk24 : zok Try.prog 24 = true := by kernel_rfl
@[push_cast] theorem bt24 : boolT Try.prog 24 = false := by kernel_rfl
@[push_cast] theorem pt24 : ptrT Try.prog 24 = false := by kernel_rfl
@[push_cast] theorem lt24 : leavesT Try.prog 24 = none := by kernel_rfl
@[push_cast] theorem k25 : kindT Try.prog 25 = TK.other := by kernel_rfl
@[push_cast] theorem s25 : szT Try.prog 25 = 1 := by kernel_rfl
@[push_cast] theorem a25 : aggO Try.prog 25 = some false := by kernel_rfl
@[push_cast] theorem b25 : byT Try.prog 25 = 0 := by kernel_rfl
@[push_cast] theorem z25 : zeroT Try.prog 25 = AV.undef := by kernel_rfl
@[push_cast] theorem zk25 : zok Try.prog 25 = true := by kernel_rfl
@[push_cast] theorem bt25 : boolT Try.prog 25 = false := by kernel_rfl
@[push_cast] theorem pt25 : ptrT Try.prog 25 = false := by kernel_rfl
@[push_cast] theorem lt25 : leavesT Try.prog 25 = none := by kernel_rfl
@[push_cast] theorem k26 : kindT Try.prog 26 = TK.other := by kernel_rfl
@[push_cast] theorem s26 : szT Try.prog 26 = 1 := by kernel_rfl
@[push_cast] theorem a26 : aggO Try.prog 26 = some false := by kernel_rfl
@[push_cast] theorem b26 : byT Try.prog 26 = 8 := by kernel_rfl
@[push_cast] theorem z26 : zeroT Try.prog 26 = AV.nilf := by kernel_rfl
@[push_cast] theorem zk26 : zok Try.prog 26 = true := by kernel_rfl
@[push_cast] theorem bt26 : boolT Try.prog 26 = false := by kernel_rfl
@[push_cast] theorem pt26 : ptrT Try.prog 26 = false := by kernel_rfl
@[push_cast] theorem lt26 : leavesT Try.prog 26 = none := by kernel_rfl
@[push_cast] theorem k27 : kindT Try.prog 27 = TK.other := by kernel_rfl
@[push_cast] theorem s27 : szT Try.prog 27 = 1 := by kernel_rfl
@[push_cast] theorem a27 : aggO Try.prog 27 = some false := by kernel_rfl
@[push_cast] theorem b27 : byT Try.prog 27 = 8 := by kernel_rfl
@[push_cast] theorem z27 : zeroT Try.prog 27 = AV.nilf := by kernel_rfl
@[push_cast] theorem zk27 : zok Try.prog 27 = true := by kernel_rfl
@[push_cast] theorem bt27 : boolT Try.prog 27 = false := by kernel_rfl
@[push_cast] theorem pt27 : ptrT Try.prog 27 = false := by kernel_rfl
@[push_cast] theorem lt27 : leavesT Try.prog 27 = none := by kernel_rfl
@[push_cast] theorem k28 : kindT Try.prog 28 = TK.other := by kernel_rfl
@[push_cast] theorem s28 : szT Try.prog 28 = 1 := by kernel_rfl
@[push_cast] theorem a28 : aggO Try.prog 28 = some false := by kernel_rfl
@[push_cast] theorem b28 : byT Try.prog 28 = 8 := by kernel_rfl
@[push_cast] theorem z28 : zeroT Try.prog 28 = AV.nilf := by kernel_rfl
@[push_cast] theorem zk28 : zok Try.prog 28 = true := by kernel_rfl
@[push_cast] theorem bt28 : boolT Try.prog 28 = false := by kernel_rfl
@[push_cast] theorem pt28 : ptrT Try.prog 28 = false := by kernel_rfl
@[push_cast] theorem lt28 : leavesT Try.prog 28 = none := by kernel_rfl
@[push_cast] theorem k29 : kindT Try.prog 29 = TK.other := by kernel_rfl
@[push_cast] theorem s29 : szT Try.prog 29 = 1 := by kernel_rfl
@[push_cast] theorem a29 : aggO Try.prog 29 = some false := by kernel_rfl
@[push_cast] theorem b29 : byT Try.prog 29 = 8 := by kernel_rfl
@[push_cast] theorem z29 : zeroT Try.prog 29 = AV.nilf := by kernel_rfl
@[push_cast] theorem zk29 : zok Try.prog 29 = true := by kernel_rfl
@[push_cast] theorem bt29 : boolT Try.prog 29 = false := by kernel_rfl
@[push_cast] theorem pt29 : ptrT Try.prog 29 = false := by kernel_rfl
@[push_cast] theorem lt29 : leavesT Try.prog 29 = none := by kernel_rfl
@[push_cast] theorem k30 : kindT Try.prog 30 = TK.other := by kernel_rfl
@[push_cast] theorem s30 : szT Try.prog 30 = 1 := by kernel_rfl
@[push_cast] theorem a30 : aggO Try.prog 30 = some false := by kernel_rfl
@[push_cast] theorem b30 : byT Try.prog 30 = 8 := by kernel_rfl
@[push_cast] theorem z30 : zeroT Try.prog 30 = AV.nilf := by kernel_rfl
@[push_cast] theorem zk30 : zok Try.prog 30 = true := by kernel_rfl
@[push_cast] theorem bt30 : boolT Try.prog 30 = false := by kernel_rfl
@[push_cast] theorem pt30 : ptrT Try.prog 30 = false := by kernel_rfl
@[push_cast] theorem lt30 : leavesT Try.prog 30 = none := by kernel_rfl
@[push_cast] theorem k31 : kindT Try.prog 31 = TK.other := by kernel_rfl
@[push_cast] theorem s31 : szT Try.prog 31 = 1 := by kernel_rfl
@[push_cast] theorem a31 : aggO Try.prog 31 = some false := by kernel_rfl
@[push_cast] theorem b31 : byT Try.prog 31 = 8 := by kernel_rfl
@[push_cast] theorem z31 : zeroT Try.prog 31 = AV.nilf := by kernel_rfl
@[push_cast] theorem zk31 : zok Try.prog 31 = true := by kernel_rfl
@[push_cast] theorem bt31 : boolT Try.prog 31 = false := by kernel_rfl
@[push_cast] theorem pt31 : ptrT Try.prog 31 = false := by kernel_rfl
@[push_cast] theorem lt31 : leavesT Try.prog 31 = none := by kernel_rfl
@[push_cast] theorem k32 : kindT Try.prog 32 = TK.other := by kernel_rfl
@[push_cast] theorem s32 : szT Try.prog 32 = 1 := by kernel_rfl
@[push_cast] theorem a32 : aggO Try.prog 32 = some false := by kernel_rfl
@[push_cast] theorem b32 : byT Try.prog 32 = 8 := by kernel_rfl
@[push_cast] theorem z32 : zeroT Try.prog 32 = AV.nilf := by kernel_rfl
@[push_cast] theorem zk32 : zok Try.prog 32 = true := by kernel_rfl
@[push_cast] theorem bt32 : boolT Try.prog 32 = false := by kernel_rfl
@[push_cast] theorem pt32 : ptrT Try.prog 32 = false := by kernel_rfl
@[push_cast] theorem lt32 : leavesT Try.prog 32 = none := by kernel_rfl
@[push_cast] theorem k33 : kindT Try.prog 33 = TK.struct := by kernel_rfl
@[push_cast] theorem s33 : szT Try.prog 33 = 4 := by kernel_rfl
@[push_cast] theorem a33 : aggO Try.prog 33 = some true := by kernel_rfl
@[push_cast] theorem b33 : byT Try.prog 33 = 48 := by kernel_rfl
@[push_cast] theorem z33 : zeroT Try.prog 33 = AV.agg [AV.str ⟨#[]⟩, AV.str ⟨#[]⟩, AV.bool false, AV.int IntKind.i64 0] := by kernel_rfl
@[push_cast] theorem zk33 : zok Try.prog 33 = true := by kernel_rfl
@[push_cast] theorem bt33 : boolT Try.prog 33 = false := by kernel_rfl
@[push_cast] theorem pt33 : ptrT Try.prog 33 = false := by kernel_rfl
@[push_cast] theorem lt33 : leavesT Try.prog 33 = some [LK.str, LK.str, LK.bool, LK.int IntKind.i64] := by kernel_rfl
@[push_cast] theorem fo33 : fieldsOk Try.prog 33 = true := by kernel_rfl
@[push_cast] theorem o33_0 : offT Try.prog 33 0 = some 0 := by kernel_rfl
@[push_cast] theorem f33_0 : fszT Try.prog 33 0 = 1 := by kernel_rfl
@[push_cast] theorem o33_1 : offT Try.prog 33 1 = some 1 := by kernel_rfl
@[push_cast] theorem f33_1 : fszT Try.prog 33 1 = 1 := by kernel_rfl
@[push_cast] theorem o33_2 : offT Try.prog 33 2 = some 2 := by kernel_rfl
@[push_cast] theorem f33_2 : fszT Try.prog 33 2 = 1 := by kernel_rfl
@[push_cast] theorem o33_3 : offT Try.prog 33 3 = some 3 := by kernel_rfl
@[push_cast] theorem f33_3 : fszT Try.prog 33 3 = 1 := by kernel_rfl
@[push_cast] theorem k34 : kindT Try.prog 34 = TK.struct := by kernel_rfl
@[push_cast] theorem s34 : szT Try.prog 34 = 4 := by kernel_rfl
@[push_cast] theorem a34 : aggO Try.prog 34 = some true := by kernel_rfl
@[push_cast] theorem b34 : byT Try.prog 34 = 48 := by kernel_rfl
@[push_cast] theorem z34 : zeroT Try.prog 34 = AV.agg [AV.str ⟨#[]⟩, AV.str ⟨#[]⟩, AV.bool false, AV.int IntKind.i64 0] := by kernel_rfl
@[push_cast] theorem zk34 : zok Try.prog 34 = true := by kernel_rfl
@[push_cast] theorem bt34 : boolT Try.prog 34 = false := by kernel_rfl
@[push_cast] theorem pt34 : ptrT Try.prog 34 = false := by kernel_rfl
@[push_cast] theorem lt34 : leavesT Try.prog 34 = some [LK.str, LK.str, LK.bool, LK.int IntKind.i64] := by kernel_rfl
@[push_cast] theorem fo34 : fieldsOk Try.prog 34 = true := by kernel_rfl
@[push_cast] theorem o34_0 : offT Try.prog 34 0 = some 0 := by kernel_rfl
@[push_cast] theorem f34_0 : fszT Try.prog 34 0 = 1 := by kernel_rfl
@[push_cast] theorem o34_1 : offT Try.prog 34 1 = some 1 := by kernel_rfl
@[push_cast] theorem f34_1 : fszT Try.prog 34 1 = 1 := by kernel_rfl
@[push_cast] theorem o34_2 : offT Try.prog 34 2 = some 2 := by kernel_rfl
@[push_cast] theorem f34_2 : fszT Try.prog 34 2 = 1 := by kernel_rfl
@[push_cast] theorem o34_3 : offT Try.prog 34 3 = some 3 := by kernel_rfl
@[push_cast] theorem f34_3 : fszT Try.prog 34 3 = 1 := by kernel_rfl
@[push_cast] theorem k35 : kindT Try.prog 35 = TK.struct := by kernel_rfl
@[push_cast] theorem s35 : szT Try.prog 35 = 5 := by kernel_rfl
@[push_cast] theorem a35 : aggO Try.prog 35 = some true := by kernel_rfl
@[push_cast] theorem b35 : byT Try.prog 35 = 56 := by kernel_rfl
@[push_cast] theorem z35 : zeroT Try.prog 35 = AV.agg [AV.int IntKind.i64 0, AV.str ⟨#[]⟩, AV.str ⟨#[]⟩, AV.bool false, AV.int IntKind.i64 0] := by kernel_rfl
@[push_cast] theorem zk35 : zok Try.prog 35 = true := by kernel_rfl
@[push_cast] theorem bt35 : boolT Try.prog 35 = false := by kernel_rfl
@[push_cast] theorem pt35 : ptrT Try.prog 35 = false := by kernel_rfl
@[push_cast] theorem lt35 : leavesT Try.prog 35 = some [LK.int IntKind.i64, LK.str, LK.str, LK.bool, LK.int IntKind.i64] := by kernel_rfl
@[push_cast] theorem fo35 : fieldsOk Try.prog 35 = true := by kernel_rfl
@[push_cast] theorem o35_0 : offT Try.prog 35 0 = some 0 := by kernel_rfl
@[push_cast] theorem f35_0 : fszT Try.prog 35 0 = 1 := by kernel_rfl
@[push_cast] theorem o35_1 : offT Try.prog 35 1 = some 1 := by kernel_rfl
@[push_cast] theorem f35_1 : fszT Try.prog 35 1 = 4 := by kernel_rfl
@[push_cast] theorem k36 : kindT Try.prog 36 = TK.struct := by kernel_rfl
@[push_cast] theorem s36 : szT Try.prog 36 = 5 := by kernel_rfl
@[push_cast] theorem a36 : aggO Try.prog 36 = some true := by kernel_rfl
@[push_cast] theorem b36 : byT Try.prog 36 = 56 := by kernel_rfl
@[push_cast] theorem z36 : zeroT Try.prog 36 = AV.agg [AV.int IntKind.i64 0, AV.str ⟨#[]⟩, AV.str ⟨#[]⟩, AV.bool false, AV.int IntKind.i64 0] := by kernel_rfl
@[push_cast] theorem zk36 : zok Try.prog 36 = true := by kernel_rfl
@[push_cast] theorem bt36 : boolT Try.prog 36 = false := by kernel_rfl
@[push_cast] theorem pt36 : ptrT Try.prog 36 = false := by kernel_rfl
@[push_cast] theorem lt36 : leavesT Try.prog 36 = some [LK.int IntKind.i64, LK.str, LK.str, LK.bool, LK.int IntKind.i64] := by kernel_rfl
@[push_cast] theorem fo36 : fieldsOk Try.prog 36 = true := by kernel_rfl
@[push_cast] theorem o36_0 : offT Try.prog 36 0 = some 0 := by kernel_rfl
@[push_cast] theorem f36_0 : fszT Try.prog 36 0 = 1 := by kernel_rfl
@[push_cast] theorem o36_1 : offT Try.prog 36 1 = some 1 := by kernel_rfl
@[push_cast] theorem f36_1 : fszT Try.prog 36 1 = 4 := by kernel_rfl
@[push_cast] theorem k37 : kindT Try.prog 37 = TK.other := by kernel_rfl
@[push_cast] theorem s37 : szT Try.prog 37 = 1 := by kernel_rfl
@[push_cast] theorem a37 : aggO Try.prog 37 = some false := by kernel_rfl
@[push_cast] theorem b37 : byT Try.prog 37 = 8 := by kernel_rfl
@[push_cast] theorem z37 : zeroT Try.prog 37 = AV.nilf := by kernel_rfl
@[push_cast] theorem zk37 : zok Try.prog 37 = true := by kernel_rfl
@[push_cast] theorem bt37 : boolT Try.prog 37 = false := by kernel_rfl
@[push_cast] theorem pt37 : ptrT Try.prog 37 = false := by kernel_rfl
@[push_cast] theorem lt37 : leavesT Try.prog 37 = none := by kernel_rfl
@[push_cast] theorem k38 : kindT Try.prog 38 = TK.slice 3 := by kernel_rfl
@[push_cast] theorem s38 : szT Try.prog 38 = 1 := by kernel_rfl
@[push_cast] theorem a38 : aggO Try.prog 38 = some false := by kernel_rfl
@[push_cast] theorem b38 : byT Try.prog 38 = 24 := by kernel_rfl
@[push_cast] theorem z38 : zeroT Try.prog 38 = AV.olst 1 [] := by kernel_rfl
@[push_cast] theorem zk38 : zok Try.prog 38 = true := by kernel_rfl
@[push_cast] theorem bt38 : boolT Try.prog 38 = false := by kernel_rfl
@[push_cast] theorem pt38 : ptrT Try.prog 38 = false := by kernel_rfl
@[push_cast] theorem lt38 : leavesT Try.prog 38 = none := by kernel_rfl
@[push_cast] theorem k39 : kindT Try.prog 39 = TK.ptr 81 := by kernel_rfl
@[push_cast] theorem s39 : szT Try.prog 39 = 1 := by kernel_rfl
@[push_cast] theorem a39 : aggO Try.prog 39 = some false := by kernel_rfl
@[push_cast] theorem b39 : byT Try.prog 39 = 8 := by kernel_rfl
@[push_cast] theorem z39 : zeroT Try.prog 39 = AV.nilp := by kernel_rfl
@[push_cast] theorem zk39 : zok Try.prog 39 = true := by kernel_rfl
@[push_cast] theorem bt39 : boolT Try.prog 39 = false := by kernel_rfl
@[push_cast] theorem pt39 : ptrT Try.prog 39 = true := by kernel_rfl
@[push_cast] theorem lt39 : leavesT Try.prog 39 = none := by kernel_rfl
@[push_cast] theorem k40 : kindT Try.prog 40 = TK.other := by kernel_rfl
@[push_cast] theorem s40 : szT Try.prog 40 = 1 := by kernel_rfl
@[push_cast] theorem a40 : aggO Try.prog 40 = some false := by kernel_rfl
@[push_cast] theorem b40 : byT Try.prog 40 = 8 := by kernel_rfl
@[push_cast] theorem z40 : zeroT Try.prog 40 = AV.nilf := by kernel_rfl
@[push_cast] theorem zk40 : zok Try.prog 40 = true := by kernel_rfl
@[push_cast] theorem bt40 : boolT Try.prog 40 = false := by kernel_rfl
@[push_cast] theorem pt40 : ptrT Try.prog 40 = false := by kernel_rfl
@[push_cast] theorem lt40 : leavesT Try.prog 40 = none := by kernel_rfl
@[push_cast] theorem k41 : kindT Try.prog 41 = TK.int IntKind.i64 := by kernel_rfl
@[push_cast] theorem s41 : szT Try.prog 41 = 1 := by kernel_rfl
@[push_cast] theorem a41 : aggO Try.prog 41 = some false := by kernel_rfl
@[push_cast] theorem b41 : byT Try.prog 41 = 8 := by kernel_rfl
@[push_cast] theorem z41 : zeroT Try.prog 41 = AV.int IntKind.i64 0 := by kernel_rfl
@[push_cast] theorem zk41 : zok Try.prog 41 = true := by kernel_rfl
@[push_cast] theorem bt41 : boolT Try.prog 41 = false := by kernel_rfl
@[push_cast] theorem pt41 : ptrT Try.prog 41 = false := by kernel_rfl
@[push_cast] theorem lt41 : leavesT Try.prog 41 = none := by kernel_rfl
@[push_cast] theorem k42 : kindT Try.prog 42 = TK.other := by kernel_rfl
@[push_cast] theorem s42 : szT Try.prog 42 = 1 := by kernel_rfl
@[push_cast] theorem a42 : aggO Try.prog 42 = some false := by kernel_rfl
@[push_cast] theorem b42 : byT Try.prog 42 = 8 := by kernel_rfl
@[push_cast] theorem z42 : zeroT Try.prog 42 = AV.nilf := by kernel_rfl
@[push_cast] theorem zk42 : zok Try.prog 42 = true := by kernel_rfl
@[push_cast] theorem bt42 : boolT Try.prog 42 = false := by kernel_rfl
@[push_cast] theorem pt42 : ptrT Try.prog 42 = false := by kernel_rfl
@[push_cast] theorem lt42 : leavesT Try.prog 42 = none := by kernel_rfl
@[push_cast] theorem k43 : kindT Try.prog 43 = TK.other := by kernel_rfl
@[push_cast] theorem s43 : szT Try.prog 43 = 1 := by kernel_rfl
@[push_cast] theorem a43 : aggO Try.prog 43 = some false := by kernel_rfl
@[push_cast] theorem b43 : byT Try.prog 43 = 8 := by kernel_rfl
@[push_cast] theorem z43 : zeroT Try.prog 43 = AV.nilf := by kernel_rfl
@[push_cast] theorem zk43 : zok Try.prog 43 = true := by kernel_rfl
@[push_cast] theorem bt43 : boolT Try.prog 43 = false := by kernel_rfl
@[push_cast] theorem pt43 : ptrT Try.prog 43 = false := by kernel_rfl
@[push_cast] theorem lt43 : leavesT Try.prog 43 = none := by kernel_rfl
@[push_cast] theorem k44 : kindT Try.prog 44 = TK.other := by kernel_rfl
@[push_cast] theorem s44 : szT Try.prog 44 = 1 := by kernel_rfl
@[push_cast] theorem a44 : aggO Try.prog 44 = some false := by kernel_rfl
@[push_cast] theorem b44 : byT Try.prog 44 = 8 := by kernel_rfl
@[push_cast] theorem z44 : zeroT Try.prog 44 = AV.nilf := by kernel_rfl
@[push_cast] theorem zk44 : zok Try.prog 44 = true := by kernel_rfl
@[push_cast] theorem bt44 : boolT Try.prog 44 = false := by kernel_rfl
@[push_cast] theorem pt44 : ptrT Try.prog 44 = false := by kernel_rfl
@[push_cast] theorem lt44 : leavesT Try.prog 44 = none := by kernel_rfl
@[push_cast] theorem k45 : kindT Try.prog 45 = TK.other := by kernel_rfl
@[push_cast] theorem s45 : szT Try.prog 45 = 1 := by kernel_rfl
@[push_cast] theorem a45 : aggO Try.prog 45 = some false := by kernel_rfl
@[push_cast] theorem b45 : byT Try.prog 45 = 8 := by kernel_rfl
@[push_cast] theorem z45 : zeroT Try.prog 45 = AV.nilf := by kernel_rfl
@[push_cast] theorem zk45 : zok Try.prog 45 = true := by kernel_rfl
@[push_cast] theorem bt45 : boolT Try.prog 45 = false := by kernel_rfl
@[push_cast] theorem pt45 : ptrT Try.prog 45 = false := by kernel_rfl
@[push_cast] theorem lt45 : leavesT Try.prog 45 = none := by kernel_rfl
@[push_cast] theorem k46 : kindT Try.prog 46 = TK.other := by kernel_rfl
@[push_cast] theorem s46 : szT Try.prog 46 = 1 := by kernel_rfl
@[push_cast] theorem a46 : aggO Try.prog 46 = some false := by kernel_rfl
@[push_cast] theorem b46 : byT Try.prog 46 = 8 := by kernel_rfl
@[push_cast] theorem z46 : zeroT Try.prog 46 = AV.nilf := by kernel_rfl
@[push_cast] theorem zk46 : zok Try.prog 46 = true := by kernel_rfl
@[push_cast] theorem bt46 : boolT Try.prog 46 = false := by kernel_rfl
@[push_cast] theorem pt46 : ptrT Try.prog 46 = false := by kernel_rfl
@[push_cast] theorem lt46 : leavesT Try.prog 46 = none := by kernel_rfl
@[push_cast] theorem k47 : kindT Try.prog 47 = TK.other := by kernel_rfl
@[push_cast] theorem s47 : szT Try.prog 47 = 1 := by kernel_rfl
@[push_cast] theorem a47 : aggO Try.prog 47 = some false := by kernel_rfl
@[push_cast] theorem b47 : byT Try.prog 47 = 8 := by kernel_rfl
@[push_cast] theorem z47 : zeroT Try.prog 47 = AV.nilf := by kernel_rfl
@[push_cast] theorem zk47 : zok Try.prog 47 = true := by kernel_rfl
@[push_cast] theorem bt47 : boolT Try.prog 47 = false := by kernel_rfl
@[push_cast] theorem pt47 : ptrT Try.prog 47 = false := by kernel_rfl
@[push_cast] theorem lt47 : leavesT Try.prog 47 = none := by kernel_rfl
@[push_cast] theorem k48 : kindT Try.prog 48 = TK.slice 54 := by kernel_rfl
@[push_cast] theorem s48 : szT Try.prog 48 = 1 := by kernel_rfl
@[push_cast] theorem a48 : aggO Try.prog 48 = some false := by kernel_rfl
@[push_cast] theorem b48 : byT Try.prog 48 = 24 := by kernel_rfl
@[push_cast] theorem z48 : zeroT Try.prog 48 = AV.olst 6 [] := by kernel_rfl
@[push_cast] theorem zk48 : zok Try.prog 48 = true := by kernel_rfl
@[push_cast] theorem bt48 : boolT Try.prog 48 = false := by kernel_rfl
@[push_cast] theorem pt48 : ptrT Try.prog 48 = false := by kernel_rfl
@[push_cast] theorem lt48 : leavesT Try.prog 48 = none := by kernel_rfl
@[push_cast] theorem k49 : kindT Try.prog 49 = TK.ptr 51 := by kernel_rfl
@[push_cast] theorem s49 : szT Try.prog 49 = 1 := by kernel_rfl
@[push_cast] theorem a49 : aggO Try.prog 49 = some false := by kernel_rfl
@[push_cast] theorem b49 : byT Try.prog 49 = 8 := by kernel_rfl
@[push_cast] theorem z49 : zeroT Try.prog 49 = AV.nilp := by kernel_rfl
@[push_cast] theorem zk49 : zok Try.prog 49 = true := by kernel_rfl
@[push_cast] theorem bt49 : boolT Try.prog 49 = false := by kernel_rfl
@[push_cast] theorem pt49 : ptrT Try.prog 49 = true := by kernel_rfl
@[push_cast] theorem lt49 : leavesT Try.prog 49 = none := by kernel_rfl
@[push_cast] theorem k50 : kindT Try.prog 50 = TK.struct := by kernel_rfl
@[push_cast] theorem s50 : szT Try.prog 50 = 2 := by kernel_rfl
@[push_cast] theorem a50 : aggO Try.prog 50 = some true := by kernel_rfl
@[push_cast] theorem b50 : byT Try.prog 50 = 32 := by kernel_rfl
@[push_cast] theorem z50 : zeroT Try.prog 50 = AV.agg [AV.int IntKind.i64 0, AV.olst 5 []] := by kernel_rfl
@[push_cast] theorem zk50 : zok Try.prog 50 = true := by kernel_rfl
@[push_cast] theorem bt50 : boolT Try.prog 50 = false := by kernel_rfl
@[push_cast] theorem pt50 : ptrT Try.prog 50 = false := by kernel_rfl
@[push_cast] theorem lt50 : leavesT Try.prog 50 = none := by kernel_rfl
@[push_cast] theorem fo50 : fieldsOk Try.prog 50 = true := by kernel_rfl
@[push_cast] theorem o50_0 : offT Try.prog 50 0 = some 0 := by kernel_rfl
@[push_cast] theorem f50_0 : fszT Try.prog 50 0 = 1 := by kernel_rfl
@[push_cast] theorem o50_1 : offT Try.prog 50 1 = some 1 := by kernel_rfl
@[push_cast] theorem f50_1 : fszT Try.prog 50 1 = 1 := by kernel_rfl
@[push_cast] theorem k51 : kindT Try.prog 51 = TK.struct := by kernel_rfl
@[push_cast] theorem s51 : szT Try.prog 51 = 2 := by kernel_rfl
@[push_cast] theorem a51 : aggO Try.prog 51 = some true := by kernel_rfl
@[push_cast] theorem b51 : byT Try.prog 51 = 32 := by kernel_rfl
@[push_cast] theorem z51 : zeroT Try.prog 51 = AV.agg [AV.int IntKind.i64 0, AV.olst 5 []] := by kernel_rfl
@[push_cast] theorem zk51 : zok Try.prog 51 = true := by kernel_rfl
@[push_cast] theorem bt51 : boolT Try.prog 51 = false := by kernel_rfl
@[push_cast] theorem pt51 : ptrT Try.prog 51 = false := by kernel_rfl
@[push_cast] theorem lt51 : leavesT Try.prog 51 = none := by kernel_rfl
@[push_cast] theorem fo51 : fieldsOk Try.prog 51 = true := by kernel_rfl
@[push_cast] theorem o51_0 : offT Try.prog 51 0 = some 0 := by kernel_rfl
@[push_cast] theorem f51_0 : fszT Try.prog 51 0 = 1 := by kernel_rfl
@[push_cast] theorem o51_1 : offT Try.prog 51 1 = some 1 := by kernel_rfl
@[push_cast] theorem f51_1 : fszT Try.prog 51 1 = 1 := by kernel_rfl
@[push_cast] theorem k52 : kindT Try.prog 52 = TK.other := by kernel_rfl
@[push_cast] theorem s52 : szT Try.prog 52 = 1 := by kernel_rfl
@[push_cast] theorem a52 : aggO Try.prog 52 = some false := by kernel_rfl
@[push_cast] theorem b52 : byT Try.prog 52 = 8 := by kernel_rfl
@[push_cast] theorem z52 : zeroT Try.prog 52 = AV.nilf := by kernel_rfl
@[push_cast] theorem zk52 : zok Try.prog 52 = true := by kernel_rfl
@[push_cast] theorem bt52 : boolT Try.prog 52 = false := by kernel_rfl
@[push_cast] theorem pt52 : ptrT Try.prog 52 = false := by kernel_rfl
@[push_cast] theorem lt52 : leavesT Try.prog 52 = none := by kernel_rfl
@[push_cast] theorem k53 : kindT Try.prog 53 = TK.struct := by kernel_rfl
@[push_cast] theorem s53 : szT Try.prog 53 = 6 := by kernel_rfl
@[push_cast] theorem a53 : aggO Try.prog 53 = some true := by kernel_rfl
@[push_cast] theorem b53 : byT Try.prog 53 = 80 := by kernel_rfl
@[push_cast] theorem z53 : zeroT Try.prog 53 = AV.agg [AV.int IntKind.i64 0, AV.olst 6 [], AV.bool false, AV.str ⟨#[]⟩, AV.str ⟨#[]⟩, AV.int IntKind.i64 0] := by kernel_rfl
@[push_cast] theorem zk53 : zok Try.prog 53 = true := by kernel_rfl
@[push_cast] theorem bt53 : boolT Try.prog 53 = false := by kernel_rfl
@[push_cast] theorem pt53 : ptrT Try.prog 53 = false := by kernel_rfl
@[push_cast] theorem lt53 : leavesT Try.prog 53 = none := by kernel_rfl
@[push_cast] theorem fo53 : fieldsOk Try.prog 53 = true := by kernel_rfl
@[push_cast] theorem o53_0 : offT Try.prog 53 0 = some 0 := by kernel_rfl
@[push_cast] theorem f53_0 : fszT Try.prog 53 0 = 1 := by kernel_rfl
@[push_cast] theorem o53_1 : offT Try.prog 53 1 = some 1 := by kernel_rfl
@[push_cast] theorem f53_1 : fszT Try.prog 53 1 = 1 := by kernel_rfl
@[push_cast] theorem o53_2 : offT Try.prog 53 2 = some 2 := by kernel_rfl
@[push_cast] theorem f53_2 : fszT Try.prog 53 2 = 1 := by kernel_rfl
@[push_cast] theorem o53_3 : offT Try.prog 53 3 = some 3 := by kernel_rfl
@[push_cast] theorem f53_3 : fszT Try.prog 53 3 = 1 := by kernel_rfl
@[push_cast] theorem o53_4 : offT Try.prog 53 4 = some 4 := by kernel_rfl
@[push_cast] theorem f53_4 : fszT Try.prog 53 4 = 1 := by kernel_rfl
@[push_cast] theorem o53_5 : offT Try.prog 53 5 = some 5 := by kernel_rfl
@[push_cast] theorem f53_5 : fszT Try.prog 53 5 = 1 := by kernel_rfl
@[push_cast] theorem k54 : kindT Try.prog 54 = TK.struct := by kernel_rfl
@[push_cast] theorem s54 : szT Try.prog 54 = 6 := by kernel_rfl
@[push_cast] theorem a54 : aggO Try.prog 54 = some true := by kernel_rfl
@[push_cast] theorem b54 : byT Try.prog 54 = 80 := by kernel_rfl
@[push_cast] theorem z54 : zeroT Try.prog 54 = AV.agg [AV.int IntKind.i64 0, AV.olst 6 [], AV.bool false, AV.str ⟨#[]⟩, AV.str ⟨#[]⟩, AV.int IntKind.i64 0] := by kernel_rfl
@[push_cast] theorem zk54 : zok Try.prog 54 = true := by kernel_rfl
@[push_cast] theorem bt54 : boolT Try.prog 54 = false := by kernel_rfl
@[push_cast] theorem pt54 : ptrT Try.prog 54 = false := by kernel_rfl
@[push_cast] theorem lt54 : leavesT Try.prog 54 = none := by kernel_rfl
@[push_cast] theorem fo54 : fieldsOk Try.prog 54 = true := by kernel_rfl
@[push_cast] theorem o54_0 : offT Try.prog 54 0 = some 0 := by kernel_rfl
@[push_cast] theorem f54_0 : fszT Try.prog 54 0 = 1 := by kernel_rfl
@[push_cast] theorem o54_1 : offT Try.prog 54 1 = some 1 := by kernel_rfl
@[push_cast] theorem f54_1 : fszT Try.prog 54 1 = 1 := by kernel_rfl
@[push_cast] theorem o54_2 : offT Try.prog 54 2 = some 2 := by kernel_rfl
@[push_cast] theorem f54_2 : fszT Try.prog 54 2 = 1 := by kernel_rfl
@[push_cast] theorem o54_3 : offT Try.prog 54 3 = some 3 := by kernel_rfl
@[push_cast] theorem f54_3 : fszT Try.prog 54 3 = 1 := by kernel_rfl
@[push_cast] theorem o54_4 : offT Try.prog 54 4 = some 4 := by kernel_rfl
@[push_cast] theorem f54_4 : fszT Try.prog 54 4 = 1 := by kernel_rfl
@[push_cast] theorem o54_5 : offT Try.prog 54 5 = some 5 := by kernel_rfl
@[push_cast] theorem f54_5 : fszT Try.prog 54 5 = 1 := by kernel_rfl
@[push_cast] theorem k55 : kindT Try.prog 55 = TK.other := by kernel_rfl
@[push_cast] theorem s55 : szT Try.prog 55 = 1 := by kernel_rfl
@[push_cast] theorem a55 : aggO Try.prog 55 = some false := by kernel_rfl
@[push_cast] theorem b55 : byT Try.prog 55 = 8 := by kernel_rfl
@[push_cast] theorem z55 : zeroT Try.prog 55 = AV.nilf := by kernel_rfl
@[push_cast] theorem zk55 : zok Try.prog 55 = true := by kernel_rfl
@[push_cast] theorem bt55 : boolT Try.prog 55 = false := by kernel_rfl
@[push_cast] theorem pt55 : ptrT Try.prog 55 = false := by kernel_rfl
@[push_cast] theorem lt55 : leavesT Try.prog 55 = none := by kernel_rfl
@[push_cast] theorem k56 : kindT Try.prog 56 = TK.other := by kernel_rfl
@[push_cast] theorem s56 : szT Try.prog 56 = 1 := by kernel_rfl
@[push_cast] theorem a56 : aggO Try.prog 56 = some false := by kernel_rfl
@[push_cast] theorem b56 : byT Try.prog 56 = 8 := by kernel_rfl
@[push_cast] theorem z56 : zeroT Try.prog 56 = AV.nilf := by kernel_rfl
@[push_cast] theorem zk56 : zok Try.prog 56 = true := by kernel_rfl
@[push_cast] theorem bt56 : boolT Try.prog 56 = false := by kernel_rfl
@[push_cast] theorem pt56 : ptrT Try.prog 56 = false := by kernel_rfl
@[push_cast] theorem lt56 : leavesT Try.prog 56 = none := by kernel_rfl
@[push_cast] theorem k57 : kindT Try.prog 57 = TK.other := by kernel_rfl
@[push_cast] theorem s57 : szT Try.prog 57 = 1 := by kernel_rfl
@[push_cast] theorem a57 : aggO Try.prog 57 = some false := by kernel_rfl
@[push_cast] theorem b57 : byT Try.prog 57 = 8 := by kernel_rfl
@[push_cast] theorem z57 : zeroT Try.prog 57 = AV.nilf := by kernel_rfl
@[push_cast] theorem zk57 : zok Try.prog 57 = true := by kernel_rfl
@[push_cast] theorem bt57 : boolT Try.prog 57 = false := by kernel_rfl
@[push_cast] theorem pt57 : ptrT Try.prog 57 = false := by kernel_rfl
@[push_cast] theorem lt57 : leavesT Try.prog 57 = none := by kernel_rfl
@[push_cast] theorem k58 : kindT Try.prog 58 = TK.other := by kernel_rfl
@[push_cast] theorem s58 : szT Try.prog 58 = 1 := by kernel_rfl
@[push_cast] theorem a58 : aggO Try.prog 58 = some false := by kernel_rfl
@[push_cast] theorem b58 : byT Try.prog 58 = 8 := by kernel_rfl
@[push_cast] theorem z58 : zeroT Try.prog 58 = AV.nilf := by kernel_rfl
@[push_cast] theorem zk58 : zok Try.prog 58 = true := by kernel_rfl
@[push_cast] theorem bt58 : boolT Try.prog 58 = false := by kernel_rfl
@[push_cast] theorem pt58 : ptrT Try.prog 58 = false := by kernel_rfl
@[push_cast] theorem lt58 : leavesT Try.prog 58 = none := by kernel_rfl
@[push_cast] theorem k59 : kindT Try.prog 59 = TK.other := by kernel_rfl
@[push_cast] theorem s59 : szT Try.prog 59 = 1 := by kernel_rfl
@[push_cast] theorem a59 : aggO Try.prog 59 = some false := by kernel_rfl
@[push_cast] theorem b59 : byT Try.prog 59 = 0 := by kernel_rfl
@[push_cast] theorem z59 : zeroT Try.prog 59 = AV.undef := by kernel_rfl
@[push_cast] theorem zk59 : zok Try.prog 59 = true := by kernel_rfl
@[push_cast] theorem bt59 : boolT Try.prog 59 = false := by kernel_rfl
@[push_cast] theorem pt59 : ptrT Try.prog 59 = false := by kernel_rfl
@[push_cast] theorem lt59 : leavesT Try.prog 59 = none := by kernel_rfl
@[push_cast] theorem k60 : kindT Try.prog 60 = TK.other := by kernel_rfl
@[push_cast] theorem s60 : szT Try.prog 60 = 1 := by kernel_rfl
@[push_cast] theorem a60 : aggO Try.prog 60 = some false := by kernel_rfl
@[push_cast] theorem b60 : byT Try.prog 60 = 8 := by kernel_rfl
@[push_cast] theorem z60 : zeroT Try.prog 60 = AV.nilf := by kernel_rfl
@[push_cast] theorem zk60 : zok Try.prog 60 = true := by kernel_rfl
@[push_cast] theorem bt60 : boolT Try.prog 60 = false := by kernel_rfl
@[push_cast] theorem pt60 : ptrT Try.prog 60 = false := by kernel_rfl
@[push_cast] theorem lt60 : leavesT Try.prog 60 = none := by kernel_rfl
@[push_cast] theorem k61 : kindT Try.prog 61 = TK.other := by kernel_rfl
@[push_cast] theorem s61 : szT Try.prog 61 = 1 := by kernel_rfl
@[push_cast] theorem a61 : aggO Try.prog 61 = some false := by kernel_rfl
@[push_cast] theorem b61 : byT Try.prog 61 = 8 := by kernel_rfl
@[push_cast] theorem z61 : zeroT Try.prog 61 = AV.nilf := by kernel_rfl
@[push_cast] theorem zk61 : zok Try.prog 61 = true := by kernel_rfl
@[push_cast] theorem bt61 : boolT Try.prog 61 = false := by kernel_rfl
@[push_cast] theorem pt61 : ptrT Try.prog 61 = false := by kernel_rfl
@[push_cast] theorem lt61 : leavesT Try.prog 61 = none := by kernel_rfl
@[push_cast] theorem k62 : kindT Try.prog 62 = TK.other := by kernel_rfl
@[push_cast] theorem s62 : szT Try.prog 62 = 1 := by kernel_rfl
@[push_cast] theorem a62 : aggO Try.prog 62 = some false := by kernel_rfl
@[push_cast] theorem b62 : byT Try.prog 62 = 8 := by kernel_rfl
@[push_cast] theorem z62 : zeroT Try.prog 62 = AV.nilf := by kernel_rfl
@[push_cast] theorem zk62 : zok Try.prog 62 = true := by kernel_rfl
@[push_cast] theorem bt62 : boolT Try.prog 62 = false := by kernel_rfl
@[push_cast] theorem pt62 : ptrT Try.prog 62 = false := by kernel_rfl
@[push_cast] theorem lt62 : leavesT Try.prog 62 = none := by kernel_rfl
@[push_cast] theorem k63 : kindT Try.prog 63 = TK.slice 70 := by kernel_rfl
@[push_cast] theorem s63 : szT Try.prog 63 = 1 := by kernel_rfl
@[push_cast] theorem a63 : aggO Try.prog 63 = some false := by kernel_rfl
@[push_cast] theorem b63 : byT Try.prog 63 = 24 := by kernel_rfl
@[push_cast] theorem z63 : zeroT Try.prog 63 = AV.olst 7 [] := by kernel_rfl
@[push_cast] theorem zk63 : zok Try.prog 63 = true := by kernel_rfl
@[push_cast] theorem bt63 : boolT Try.prog 63 = false := by kernel_rfl
@[push_cast] theorem pt63 : ptrT Try.prog 63 = false := by kernel_rfl
@[push_cast] theorem lt63 : leavesT Try.prog 63 = none := by kernel_rfl
@[push_cast] theorem k64 : kindT Try.prog 64 = TK.other := by kernel_rfl
@[push_cast] theorem s64 : szT Try.prog 64 = 1 := by kernel_rfl
@[push_cast] theorem a64 : aggO Try.prog 64 = some false := by kernel_rfl
@[push_cast] theorem b64 : byT Try.prog 64 = 0 := by kernel_rfl
@[push_cast] theorem z64 : zeroT Try.prog 64 = AV.undef := by kernel_rfl
@[push_cast] theorem zk64 : zok Try.prog 64 = true := by kernel_rfl
@[push_cast] theorem bt64 : boolT Try.prog 64 = false := by kernel_rfl
@[push_cast] theorem pt64 : ptrT Try.prog 64 = false := by kernel_rfl
@[push_cast] theorem lt64 : leavesT Try.prog 64 = none := by kernel_rfl
@[push_cast] theorem k65 : kindT Try.prog 65 = TK.other := by kernel_rfl
@[push_cast] theorem s65 : szT Try.prog 65 = 1 := by kernel_rfl
@[push_cast] theorem a65 : aggO Try.prog 65 = some false := by kernel_rfl
@[push_cast] theorem b65 : byT Try.prog 65 = 8 := by kernel_rfl
@[push_cast] theorem z65 : zeroT Try.prog 65 = AV.nilf := by kernel_rfl
@[push_cast] theorem zk65 : zok Try.prog 65 = true := by kernel_rfl
@[push_cast] theorem bt65 : boolT Try.prog 65 = false := by kernel_rfl
@[push_cast] theorem pt65 : ptrT Try.prog 65 = false := by kernel_rfl
@[push_cast] theorem lt65 : leavesT Try.prog 65 = none := by kernel_rfl
@[push_cast] theorem k66 : kindT Try.prog 66 = TK.other := by kernel_rfl
@[push_cast] theorem s66 : szT Try.prog 66 = 1 := by kernel_rfl
@[push_cast] theorem a66 : aggO Try.prog 66 = some false := by kernel_rfl
@[push_cast] theorem b66 : byT Try.prog 66 = 8 := by kernel_rfl
@[push_cast] theorem z66 : zeroT Try.prog 66 = AV.nilf := by kernel_rfl
@[push_cast] theorem zk66 : zok Try.prog 66 = true := by kernel_rfl
@[push_cast] theorem bt66 : boolT Try.prog 66 = false := by kernel_rfl
@[push_cast] theorem pt66 : ptrT Try.prog 66 = false := by kernel_rfl
@[push_cast] theorem lt66 : leavesT Try.prog 66 = none := by kernel_rfl
@[push_cast] theorem k67 : kindT Try.prog 67 = TK.other := by kernel_rfl
@[push_cast] theorem s67 : szT Try.prog 67 = 1 := by kernel_rfl
@[push_cast] theorem a67 : aggO Try.prog 67 = some false := by kernel_rfl
@[push_cast] theorem b67 : byT Try.prog 67 = 8 := by kernel_rfl
@[push_cast] theorem z67 : zeroT Try.prog 67 = AV.nilf := by kernel_rfl
@[push_cast] theorem zk67 : zok Try.prog 67 = true := by kernel_rfl
@[push_cast] theorem bt67 : boolT Try.prog 67 = false := by kernel_rfl
@[push_cast] theorem pt67 : ptrT Try.prog 67 = false := by kernel_rfl
@[push_cast] theorem lt67 : leavesT Try.prog 67 = none := by kernel_rfl
@[push_cast] theorem k68 : kindT Try.prog 68 = TK.slice 34 := by kernel_rfl
@[push_cast] theorem s68 : szT Try.prog 68 = 1 := by kernel_rfl
@[push_cast] theorem a68 : aggO Try.prog 68 = some false := by kernel_rfl
@[push_cast] theorem b68 : byT Try.prog 68 = 24 := by kernel_rfl
@[push_cast] theorem z68 : zeroT Try.prog 68 = AV.olst 4 [] := by kernel_rfl
@[push_cast] theorem zk68 : zok Try.prog 68 = true := by kernel_rfl
@[push_cast] theorem bt68 : boolT Try.prog 68 = false := by kernel_rfl
@[push_cast] theorem pt68 : ptrT Try.prog 68 = false := by kernel_rfl
@[push_cast] theorem lt68 : leavesT Try.prog 68 = none := by kernel_rfl
@[push_cast] theorem k69 : kindT Try.prog 69 = TK.struct := by kernel_rfl
@[push_cast] theorem s69 : szT Try.prog 69 = 7 := by kernel_rfl
@[push_cast] theorem a69 : aggO Try.prog 69 = some true := by kernel_rfl
@[push_cast] theorem b69 : byT Try.prog 69 = 72 := by kernel_rfl
@[push_cast] theorem z69 : zeroT Try.prog 69 = AV.agg [AV.int IntKind.i64 0, AV.int IntKind.i64 0, AV.int IntKind.i64 0, AV.int IntKind.i64 0, AV.int IntKind.i64 0, AV.int IntKind.i64 0, AV.olst 4 []] := by kernel_rfl
@[push_cast] theorem zk69 : zok Try.prog 69 = true := by kernel_rfl
@[push_cast] theorem bt69 : boolT Try.prog 69 = false := by kernel_rfl
@[push_cast] theorem pt69 : ptrT Try.prog 69 = false := by kernel_rfl
@[push_cast] theorem lt69 : leavesT Try.prog 69 = none := by kernel_rfl
@[push_cast] theorem fo69 : fieldsOk Try.prog 69 = true := by kernel_rfl
@[push_cast] theorem o69_0 : offT Try.prog 69 0 = some 0 := by kernel_rfl
@[push_cast] theorem f69_0 : fszT Try.prog 69 0 = 1 := by kernel_rfl
@[push_cast] theorem o69_1 : offT Try.prog 69 1 = some 1 := by kernel_rfl
@[push_cast] theorem f69_1 : fszT Try.prog 69 1 = 1 := by kernel_rfl
@[push_cast] theorem o69_2 : offT Try.prog 69 2 = some 2 := by kernel_rfl
@[push_cast] theorem f69_2 : fszT Try.prog 69 2 = 1 := by kernel_rfl
@[push_cast] theorem o69_3 : offT Try.prog 69 3 = some 3 := by kernel_rfl
@[push_cast] theorem f69_3 : fszT Try.prog 69 3 = 1 := by kernel_rfl
@[push_cast] theorem o69_4 : offT Try.prog 69 4 = some 4 := by kernel_rfl
@[push_cast] theorem f69_4 : fszT Try.prog 69 4 = 1 := by kernel_rfl
@[push_cast] theorem o69_5 : offT Try.prog 69 5 = some 5 := by kernel_rfl
@[push_cast] theorem f69_5 : fszT Try.prog 69 5 = 1 := by kernel_rfl
@[push_cast] theorem o69_6 : offT Try.prog 69 6 = some 6 := by kernel_rfl
@[push_cast] theorem f69_6 : fszT Try.prog 69 6 = 1 := by kernel_rfl
@[push_cast] theorem k70 : kindT Try.prog 70 = TK.struct := by kernel_rfl
@[push_cast] theorem s70 : szT Try.prog 70 = 7 := by kernel_rfl
@[push_cast] theorem a70 : aggO Try.prog 70 = some true := by kernel_rfl
@[push_cast] theorem b70 : byT Try.prog 70 = 72 := by kernel_rfl
@[push_cast] theorem z70 : zeroT Try.prog 70 = AV.agg [AV.int IntKind.i64 0, AV.int IntKind.i64 0, AV.int IntKind.i64 0, AV.int IntKind.i64 0, AV.int IntKind.i64 0, AV.int IntKind.i64 0, AV.olst 4 []] := by kernel_rfl
@[push_cast] theorem zk70 : zok Try.prog 70 = true := by kernel_rfl
@[push_cast] theorem bt70 : boolT Try.prog 70 = false := by kernel_rfl
@[push_cast] theorem pt70 : ptrT Try.prog 70 = false := by kernel_rfl
@[push_cast] theorem lt70 : leavesT Try.prog 70 = none := by kernel_rfl
@[push_cast] theorem fo70 : fieldsOk Try.prog 70 = true := by kernel_rfl
@[push_cast] theorem o70_0 : offT Try.prog 70 0 = some 0 := by kernel_rfl
@[push_cast] theorem f70_0 : fszT Try.prog 70 0 = 1 := by kernel_rfl
@[push_cast] theorem o70_1 : offT Try.prog 70 1 = some 1 := by kernel_rfl
@[push_cast] theorem f70_1 : fszT Try.prog 70 1 = 1 := by kernel_rfl
@[push_cast] theorem o70_2 : offT Try.prog 70 2 = some 2 := by kernel_rfl
@[push_cast] theorem f70_2 : fszT Try.prog 70 2 = 1 := by kernel_rfl
@[push_cast] theorem o70_3 : offT Try.prog 70 3 = some 3 := by kernel_rfl
@[push_cast] theorem f70_3 : fszT Try.prog 70 3 = 1 := by kernel_rfl
@[push_cast] theorem o70_4 : offT Try.prog 70 4 = some 4 := by kernel_rfl
@[push_cast] theorem f70_4 : fszT Try.prog 70 4 = 1 := by kernel_rfl
@[push_cast] theorem o70_5 : offT Try.prog 70 5 = some 5 := by kernel_rfl
@[push_cast] theorem f70_5 : fszT Try.prog 70 5 = 1 := by kernel_rfl
@[push_cast] theorem o70_6 : offT Try.prog 70 6 = some 6 := by kernel_rfl
@[push_cast] theorem f70_6 : fszT Try.prog 70 6 = 1 := by kernel_rfl
@[push_cast] theorem k71 : kindT Try.prog 71 = TK.other := by kernel_rfl
@[push_cast] theorem s71 : szT Try.prog 71 = 1 := by kernel_rfl
@[push_cast] theorem a71 : aggO Try.prog 71 = some false := by kernel_rfl
@[push_cast] theorem b71 : byT Try.prog 71 = 8 := by kernel_rfl
@[push_cast] theorem z71 : zeroT Try.prog 71 = AV.nilf := by kernel_rfl
@[push_cast] theorem zk71 : zok Try.prog 71 = true := by kernel_rfl
@[push_cast] theorem bt71 : boolT Try.prog 71 = false := by kernel_rfl
@[push_cast] theorem pt71 : ptrT Try.prog 71 = false := by kernel_rfl
@[push_cast] theorem lt71 : leavesT Try.prog 71 = none := by kernel_rfl
@[push_cast] theorem k72 : kindT Try.prog 72 = TK.other := by kernel_rfl
@[push_cast] theorem s72 : szT Try.prog 72 = 1 := by kernel_rfl
@[push_cast] theorem a72 : aggO Try.prog 72 = some false := by kernel_rfl
@[push_cast] theorem b72 : byT Try.prog 72 = 8 := by kernel_rfl
@[push_cast] theorem z72 : zeroT Try.prog 72 = AV.nilf := by kernel_rfl
@[push_cast] theorem zk72 : zok Try.prog 72 = true := by kernel_rfl
@[push_cast] theorem bt72 : boolT Try.prog 72 = false := by kernel_rfl
@[push_cast] theorem pt72 : ptrT Try.prog 72 = false := by kernel_rfl
@[push_cast] theorem lt72 : leavesT Try.prog 72 = none := by kernel_rfl
@[push_cast] theorem k73 : kindT Try.prog 73 = TK.other := by kernel_rfl
@[push_cast] theorem s73 : szT Try.prog 73 = 1 := by kernel_rfl
@[push_cast] theorem a73 : aggO Try.prog 73 = some false := by kernel_rfl
@[push_cast] theorem b73 : byT Try.prog 73 = 8 := by kernel_rfl
@[push_cast] theorem z73 : zeroT Try.prog 73 = AV.nilf := by kernel_rfl
@[push_cast] theorem zk73 : zok Try.prog 73 = true := by kernel_rfl
@[push_cast] theorem bt73 : boolT Try.prog 73 = false := by kernel_rfl
@[push_cast] theorem pt73 : ptrT Try.prog 73 = false := by kernel_rfl
@[push_cast] theorem lt73 : leavesT Try.prog 73 = none := by kernel_rfl
@[push_cast] theorem k74 : kindT Try.prog 74 = TK.struct := by kernel_rfl
@[push_cast] theorem s74 : szT Try.prog 74 = 6 := by kernel_rfl
@[push_cast] theorem a74 : aggO Try.prog 74 = some true := by kernel_rfl
@[push_cast] theorem b74 : byT Try.prog 74 = 64 := by kernel_rfl
@[push_cast] theorem z74 : zeroT Try.prog 74 = AV.agg [AV.int IntKind.i64 0, AV.bool false, AV.str ⟨#[]⟩, AV.str ⟨#[]⟩, AV.bool false, AV.int IntKind.i64 0] := by kernel_rfl
@[push_cast] theorem zk74 : zok Try.prog 74 = true := by kernel_rfl
@[push_cast] theorem bt74 : boolT Try.prog 74 = false := by kernel_rfl
@[push_cast] theorem pt74 : ptrT Try.prog 74 = false := by kernel_rfl
@[push_cast] theorem lt74 : leavesT Try.prog 74 = some [LK.int IntKind.i64, LK.bool, LK.str, LK.str, LK.bool, LK.int IntKind.i64] := by kernel_rfl
@[push_cast] theorem fo74 : fieldsOk Try.prog 74 = true := by kernel_rfl
@[push_cast] theorem o74_0 : offT Try.prog 74 0 = some 0 := by kernel_rfl
@[push_cast] theorem f74_0 : fszT Try.prog 74 0 = 1 := by kernel_rfl
@[push_cast] theorem o74_1 : offT Try.prog 74 1 = some 1 := by kernel_rfl
@[push_cast] theorem f74_1 : fszT Try.prog 74 1 = 1 := by kernel_rfl
@[push_cast] theorem o74_2 : offT Try.prog 74 2 = some 2 := by kernel_rfl
@[push_cast] theorem f74_2 : fszT Try.prog 74 2 = 4 := by kernel_rfl
@[push_cast] theorem k75 : kindT Try.prog 75 = TK.struct := by kernel_rfl
@[push_cast] theorem s75 : szT Try.prog 75 = 6 := by kernel_rfl
@[push_cast] theorem a75 : aggO Try.prog 75 = some true := by kernel_rfl
@[push_cast] theorem b75 : byT Try.prog 75 = 64 := by kernel_rfl
@[push_cast] theorem z75 : zeroT Try.prog 75 = AV.agg [AV.int IntKind.i64 0, AV.bool false, AV.str ⟨#[]⟩, AV.str ⟨#[]⟩, AV.bool false, AV.int IntKind.i64 0] := by kernel_rfl
@[push_cast] theorem zk75 : zok Try.prog 75 = true := by kernel_rfl
@[push_cast] theorem bt75 : boolT Try.prog 75 = false := by kernel_rfl
@[push_cast] theorem pt75 : ptrT Try.prog 75 = false := by kernel_rfl
@[push_cast] theorem lt75 : leavesT Try.prog 75 = some [LK.int IntKind.i64, LK.bool, LK.str, LK.str, LK.bool, LK.int IntKind.i64] := by kernel_rfl
@[push_cast] theorem fo75 : fieldsOk Try.prog 75 = true := by kernel_rfl
@[push_cast] theorem o75_0 : offT Try.prog 75 0 = some 0 := by kernel_rfl
@[push_cast] theorem f75_0 : fszT Try.prog 75 0 = 1 := by kernel_rfl
@[push_cast] theorem o75_1 : offT Try.prog 75 1 = some 1 := by kernel_rfl
@[push_cast] theorem f75_1 : fszT Try.prog 75 1 = 1 := by kernel_rfl
@[push_cast] theorem o75_2 : offT Try.prog 75 2 = some 2 := by kernel_rfl
@[push_cast] theorem f75_2 : fszT Try.prog 75 2 = 4 := by kernel_rfl
@[push_cast] theorem k76 : kindT Try.prog 76 = TK.struct := by kernel_rfl
@[push_cast] theorem s76 : szT Try.prog 76 = 5 := by kernel_rfl
@[push_cast] theorem a76 : aggO Try.prog 76 = some true := by kernel_rfl
@[push_cast] theorem b76 : byT Try.prog 76 = 56 := by kernel_rfl
@[push_cast] theorem z76 : zeroT Try.prog 76 = AV.agg [AV.int IntKind.i64 0, AV.str ⟨#[]⟩, AV.str ⟨#[]⟩, AV.bool false, AV.int IntKind.i64 0] := by kernel_rfl
@[push_cast] theorem zk76 : zok Try.prog 76 = true := by kernel_rfl
@[push_cast] theorem bt76 : boolT Try.prog 76 = false := by kernel_rfl
@[push_cast] theorem pt76 : ptrT Try.prog 76 = false := by kernel_rfl
@[push_cast] theorem lt76 : leavesT Try.prog 76 = some [LK.int IntKind.i64, LK.str, LK.str, LK.bool, LK.int IntKind.i64] := by kernel_rfl
@[push_cast] theorem fo76 : fieldsOk Try.prog 76 = true := by kernel_rfl
@[push_cast] theorem o76_0 : offT Try.prog 76 0 = some 0 := by kernel_rfl
@[push_cast] theorem f76_0 : fszT Try.prog 76 0 = 1 := by kernel_rfl
@[push_cast] theorem o76_1 : offT Try.prog 76 1 = some 1 := by kernel_rfl
@[push_cast] theorem f76_1 : fszT Try.prog 76 1 = 4 := by kernel_rfl
@[push_cast] theorem k77 : kindT Try.prog 77 = TK.struct := by kernel_rfl
@[push_cast] theorem s77 : szT Try.prog 77 = 5 := by kernel_rfl
@[push_cast] theorem a77 : aggO Try.prog 77 = some true := by kernel_rfl
@[push_cast] theorem b77 : byT Try.prog 77 = 56 := by kernel_rfl
@[push_cast] theorem z77 : zeroT Try.prog 77 = AV.agg [AV.int IntKind.i64 0, AV.str ⟨#[]⟩, AV.str ⟨#[]⟩, AV.bool false, AV.int IntKind.i64 0] := by kernel_rfl
@[push_cast] theorem zk77 : zok Try.prog 77 = true := by kernel_rfl
@[push_cast] theorem bt77 : boolT Try.prog 77 = false := by kernel_rfl
@[push_cast] theorem pt77 : ptrT Try.prog 77 = false := by kernel_rfl
@[push_cast] theorem lt77 : leavesT Try.prog 77 = some [LK.int IntKind.i64, LK.str, LK.str, LK.bool, LK.int IntKind.i64] := by kernel_rfl
@[push_cast] theorem fo77 : fieldsOk Try.prog 77 = true := by kernel_rfl
@[push_cast] theorem o77_0 : offT Try.prog 77 0 = some 0 := by kernel_rfl
@[push_cast] theorem f77_0 : fszT Try.prog 77 0 = 1 := by kernel_rfl
@[push_cast] theorem o77_1 : offT Try.prog 77 1 = some 1 := by kernel_rfl
@[push_cast] theorem f77_1 : fszT Try.prog 77 1 = 4 := by kernel_rfl
@[push_cast] theorem k78 : kindT Try.prog 78 = TK.map 9 3 := by kernel_rfl
@[push_cast] theorem s78 : szT Try.prog 78 = 1 := by kernel_rfl
@[push_cast] theorem a78 : aggO Try.prog 78 = some false := by kernel_rfl
@[push_cast] theorem b78 : byT Try.prog 78 = 8 := by kernel_rfl
@[push_cast] theorem z78 : zeroT Try.prog 78 = AV.nilm := by kernel_rfl
@[push_cast] theorem zk78 : zok Try.prog 78 = true := by kernel_rfl
@[push_cast] theorem bt78 : boolT Try.prog 78 = false := by kernel_rfl
@[push_cast] theorem pt78 : ptrT Try.prog 78 = false := by kernel_rfl
@[push_cast] theorem lt78 : leavesT Try.prog 78 = none := by kernel_rfl
@[push_cast] theorem k79 : kindT Try.prog 79 = TK.other := by kernel_rfl
@[push_cast] theorem s79 : szT Try.prog 79 = 1 := by kernel_rfl
@[push_cast] theorem a79 : aggO Try.prog 79 = some false := by kernel_rfl
@[push_cast] theorem b79 : byT Try.prog 79 = 8 := by kernel_rfl
@[push_cast] theorem z79 : zeroT Try.prog 79 = AV.nilf := by kernel_rfl
@[push_cast] theorem zk79 : zok Try.prog 79 = true := by kernel_rfl
@[push_cast] theorem bt79 : boolT Try.prog 79 = false := by kernel_rfl
@[push_cast] theorem pt79 : ptrT Try.prog 79 = false := by kernel_rfl
@[push_cast] theorem lt79 : leavesT Try.prog 79 = none := by kernel_rfl
@[push_cast] theorem k80 : kindT Try.prog 80 = TK.struct := by kernel_rfl
@[push_cast] theorem s80 : szT Try.prog 80 = 2 := by kernel_rfl
@[push_cast] theorem a80 : aggO Try.prog 80 = some true := by kernel_rfl
@[push_cast] theorem b80 : byT Try.prog 80 = 32 := by kernel_rfl
@[push_cast] theorem z80 : zeroT Try.prog 80 = AV.agg [AV.int IntKind.i64 0, AV.olst 5 []] := by kernel_rfl
@[push_cast] theorem zk80 : zok Try.prog 80 = true := by kernel_rfl
@[push_cast] theorem bt80 : boolT Try.prog 80 = false := by kernel_rfl
@[push_cast] theorem pt80 : ptrT Try.prog 80 = false := by kernel_rfl
@[push_cast] theorem lt80 : leavesT Try.prog 80 = none := by kernel_rfl
@[push_cast] theorem fo80 : fieldsOk Try.prog 80 = true := by kernel_rfl
@[push_cast] theorem o80_0 : offT Try.prog 80 0 = some 0 := by kernel_rfl
@[push_cast] theorem f80_0 : fszT Try.prog 80 0 = 1 := by kernel_rfl
@[push_cast] theorem o80_1 : offT Try.prog 80 1 = some 1 := by kernel_rfl
@[push_cast] theorem f80_1 : fszT Try.prog 80 1 = 1 := by kernel_rfl
@[push_cast] theorem k81 : kindT Try.prog 81 = TK.struct := by kernel_rfl
@[push_cast] theorem s81 : szT Try.prog 81 = 2 := by kernel_rfl
@[push_cast] theorem a81 : aggO Try.prog 81 = some true := by kernel_rfl
@[push_cast] theorem b81 : byT Try.prog 81 = 32 := by kernel_rfl
@[push_cast] theorem z81 : zeroT Try.prog 81 = AV.agg [AV.int IntKind.i64 0, AV.olst 5 []] := by kernel_rfl
@[push_cast] theorem zk81 : zok Try.prog 81 = true := by kernel_rfl
@[push_cast] theorem bt81 : boolT Try.prog 81 = false := by kernel_rfl
@[push_cast] theorem pt81 : ptrT Try.prog 81 = false := by kernel_rfl
@[push_cast] theorem lt81 : leavesT Try.prog 81 = none := by kernel_rfl
@[push_cast] theorem fo81 : fieldsOk Try.prog 81 = true := by kernel_rfl
@[push_cast] theorem o81_0 : offT Try.prog 81 0 = some 0 := by kernel_rfl
@[push_cast] theorem f81_0 : fszT Try.prog 81 0 = 1 := by kernel_rfl
@[push_cast] theorem o81_1 : offT Try.prog 81 1 = some 1 := by kernel_rfl
@[push_cast] theorem f81_1 : fszT Try.prog 81 1 = 1 := by kernel_rfl
@[push_cast] theorem k82 : kindT Try.prog 82 = TK.other := by kernel_rfl
@[push_cast] theorem s82 : szT Try.prog 82 = 1 := by kernel_rfl
@[push_cast] theorem a82 : aggO Try.prog 82 = some false := by kernel_rfl
@[push_cast] theorem b82 : byT Try.prog 82 = 8 := by kernel_rfl
@[push_cast] theorem z82 : zeroT Try.prog 82 = AV.nilf := by kernel_rfl
@[push_cast] theorem zk82 : zok Try.prog 82 = true := by kernel_rfl
@[push_cast] theorem bt82 : boolT Try.prog 82 = false := by kernel_rfl
@[push_cast] theorem pt82 : ptrT Try.prog 82 = false := by kernel_rfl
@[push_cast] theorem lt82 : leavesT Try.prog 82 = none := by kernel_rfl
@[push_cast] theorem k83 : kindT Try.prog 83 = TK.other := by kernel_rfl
@[push_cast] theorem s83 : szT Try.prog 83 = 1 := by kernel_rfl
@[push_cast] theorem a83 : aggO Try.prog 83 = some false := by kernel_rfl
@[push_cast] theorem b83 : byT Try.prog 83 = 8 := by kernel_rfl
@[push_cast] theorem z83 : zeroT Try.prog 83 = AV.nilf := by kernel_rfl
@[push_cast] theorem zk83 : zok Try.prog 83 = true := by kernel_rfl
@[push_cast] theorem bt83 : boolT Try.prog 83 = false := by kernel_rfl
@[push_cast] theorem pt83 : ptrT Try.prog 83 = false := by kernel_rfl
@[push_cast] theorem lt83 : leavesT Try.prog 83 = none := by kernel_rfl
@[push_cast] theorem k84 : kindT Try.prog 84 = TK.other := by kernel_rfl
@[push_cast] theorem s84 : szT Try.prog 84 = 1 := by kernel_rfl
@[push_cast] theorem a84 : aggO Try.prog 84 = some false := by kernel_rfl
@[push_cast] theorem b84 : byT Try.prog 84 = 8 := by kernel_rfl
@[push_cast] theorem z84 : zeroT Try.prog 84 = AV.nilf := by kernel_rfl
@[push_cast] theorem zk84 : zok Try.prog 84 = true := by kernel_rfl
@[push_cast] theorem bt84 : boolT Try.prog 84 = false := by kernel_rfl
@[push_cast] theorem pt84 : ptrT Try.prog 84 = false := by kernel_rfl
@[push_cast] theorem lt84 : leavesT Try.prog 84 = none := by kernel_rfl
@[push_cast] theorem k85 : kindT Try.prog 85 = TK.other := by kernel_rfl
@[push_cast] theorem s85 : szT Try.prog 85 = 1 := by kernel_rfl
@[push_cast] theorem a85 : aggO Try.prog 85 = some false := by kernel_rfl
@[push_cast] theorem b85 : byT Try.prog 85 = 8 := by kernel_rfl
@[push_cast] theorem z85 : zeroT Try.prog 85 = AV.nilf := by kernel_rfl
@[push_cast] theorem zk85 : zok Try.prog 85 = true := by kernel_rfl
@[push_cast] theorem bt85 : boolT Try.prog 85 = false := by kernel_rfl
@[push_cast] theorem pt85 : ptrT Try.prog 85 = false := by kernel_rfl
@[push_cast] theorem lt85 : leavesT Try.prog 85 = none := by kernel_rfl
@[push_cast] theorem k86 : kindT Try.prog 86 = TK.other := by kernel_rfl
@[push_cast] theorem s86 : szT Try.prog 86 = 1 := by kernel_rfl
@[push_cast] theorem a86 : aggO Try.prog 86 = some false := by kernel_rfl
@[push_cast] theorem b86 : byT Try.prog 86 = 8 := by kernel_rfl
@[push_cast] theorem z86 : zeroT Try.prog 86 = AV.nilf := by kernel_rfl
@[push_cast] theorem zk86 : zok Try.prog 86 = true := by kernel_rfl
@[push_cast] theorem bt86 : boolT Try.prog 86 = false := by kernel_rfl
@[push_cast] theorem pt86 : ptrT Try.prog 86 = false := by kernel_rfl
@[push_cast] theorem lt86 : leavesT Try.prog 86 = none := by kernel_rfl
@[push_cast] theorem k87 : kindT Try.prog 87 = TK.other := by kernel_rfl
@[push_cast] theorem s87 : szT Try.prog 87 = 1 := by kernel_rfl
@[push_cast] theorem a87 : aggO Try.prog 87 = some false := by kernel_rfl
@[push_cast] theorem b87 : byT Try.prog 87 = 8 := by kernel_rfl
@[push_cast] theorem z87 : zeroT Try.prog 87 = AV.nilf := by kernel_rfl
@[push_cast] theorem zk87 : zok Try.prog 87 = true := by kernel_rfl
@[push_cast] theorem bt87 : boolT Try.prog 87 = false := by kernel_rfl
@[push_cast] theorem pt87 : ptrT Try.prog 87 = false := by kernel_rfl
@[push_cast] theorem lt87 : leavesT Try.prog 87 = none := by kernel_rfl
@[push_cast] theorem k88 : kindT Try.prog 88 = TK.other := by kernel_rfl
@[push_cast] theorem s88 : szT Try.prog 88 = 1 := by kernel_rfl
@[push_cast] theorem a88 : aggO Try.prog 88 = some false := by kernel_rfl
@[push_cast] theorem b88 : byT Try.prog 88 = 8 := by kernel_rfl
@[push_cast] theorem z88 : zeroT Try.prog 88 = AV.nilf := by kernel_rfl
@[push_cast] theorem zk88 : zok Try.prog 88 = true := by kernel_rfl
@[push_cast] theorem bt88 : boolT Try.prog 88 = false := by kernel_rfl
@[push_cast] theorem pt88 : ptrT Try.prog 88 = false := by kernel_rfl
@[push_cast] theorem lt88 : leavesT Try.prog 88 = none := by kernel_rfl
@[push_cast] theorem k89 : kindT Try.prog 89 = TK.other := by kernel_rfl
@[push_cast] theorem s89 : szT Try.prog 89 = 1 := by kernel_rfl
@[push_cast] theorem a89 : aggO Try.prog 89 = some false := by kernel_rfl
@[push_cast] theorem b89 : byT Try.prog 89 = 0 := by kernel_rfl
@[push_cast] theorem z89 : zeroT Try.prog 89 = AV.undef := by kernel_rfl
@[push_cast] theorem zk89 : zok Try.prog 89 = true := by kernel_rfl
@[push_cast] theorem bt89 : boolT Try.prog 89 = false := by kernel_rfl
@[push_cast] theorem pt89 : ptrT Try.prog 89 = false := by kernel_rfl
@[push_cast] theorem lt89 : leavesT Try.prog 89 = none := by kernel_rfl
@[push_cast] theorem k90 : kindT Try.prog 90 = TK.other := by kernel_rfl
@[push_cast] theorem s90 : szT Try.prog 90 = 1 := by kernel_rfl
@[push_cast] theorem a90 : aggO Try.prog 90 = some false := by kernel_rfl
@[push_cast] theorem b90 : byT Try.prog 90 = 8 := by kernel_rfl
@[push_cast] theorem z90 : zeroT Try.prog 90 = AV.nilf := by kernel_rfl
@[push_cast] theorem zk90 : zok Try.prog 90 = true := by kernel_rfl
@[push_cast] theorem bt90 : boolT Try.prog 90 = false := by kernel_rfl
@[push_cast] theorem pt90 : ptrT Try.prog 90 = false := by kernel_rfl
@[push_cast] theorem lt90 : leavesT Try.prog 90 = none := by kernel_rfl
@[push_cast] theorem k91 : kindT Try.prog 91 = TK.other := by kernel_rfl
@[push_cast] theorem s91 : szT Try.prog 91 = 1 := by kernel_rfl
@[push_cast] theorem a91 : aggO Try.prog 91 = some false := by kernel_rfl
@[push_cast] theorem b91 : byT Try.prog 91 = 8 := by kernel_rfl
@[push_cast] theorem z91 : zeroT Try.prog 91 = AV.nilf := by kernel_rfl
@[push_cast] theorem zk91 : zok Try.prog 91 = true := by kernel_rfl
@[push_cast] theorem bt91 : boolT Try.prog 91 = false := by kernel_rfl
@[push_cast] theorem pt91 : ptrT Try.prog 91 = false := by kernel_rfl
@[push_cast] theorem lt91 : leavesT Try.prog 91 = none := by kernel_rfl
@[push_cast] theorem k92 : kindT Try.prog 92 = TK.other := by kernel_rfl
@[push_cast] theorem s92 : szT Try.prog 92 = 1 := by kernel_rfl
@[push_cast] theorem a92 : aggO Try.prog 92 = some false := by kernel_rfl
@[push_cast] theorem b92 : byT Try.prog 92 = 0 := by kernel_rfl
@[push_cast] theorem z92 : zeroT Try.prog 92 = AV.undef := by kernel_rfl
@[push_cast] theorem zk92 : zok Try.prog 92 = true := by kernel_rfl
@[push_cast] theorem bt92 : boolT Try.prog 92 = false := by kernel_rfl
@[push_cast] theorem pt92 : ptrT Try.prog 92 = false := by kernel_rfl
@[push_cast] theorem lt92 : leavesT Try.prog 92 = none := by kernel_rfl
@[push_cast] theorem k93 : kindT Try.prog 93 = TK.other := by kernel_rfl
@[push_cast] theorem s93 : szT Try.prog 93 = 1 := by kernel_rfl
@[push_cast] theorem a93 : aggO Try.prog 93 = some false := by kernel_rfl
@[push_cast] theorem b93 : byT Try.prog 93 = 8 := by kernel_rfl
@[push_cast] theorem z93 : zeroT Try.prog 93 = AV.nilf := by kernel_rfl
@[push_cast] theorem zk93 : zok Try.prog 93 = true := by kernel_rfl
@[push_cast] theorem bt93 : boolT Try.prog 93 = false := by kernel_rfl
@[push_cast] theorem pt93 : ptrT Try.prog 93 = false := by kernel_rfl
@[push_cast] theorem lt93 : leavesT Try.prog 93 = none := by kernel_rfl
@[push_cast] theorem k94 : kindT Try.prog 94 = TK.other := by kernel_rfl
@[push_cast] theorem s94 : szT Try.prog 94 = 1 := by kernel_rfl
@[push_cast] theorem a94 : aggO Try.prog 94 = some false := by kernel_rfl
@[push_cast] theorem b94 : byT Try.prog 94 = 8 := by kernel_rfl
@[push_cast] theorem z94 : zeroT Try.prog 94 = AV.nilf := by kernel_rfl
@[push_cast] theorem zk94 : zok Try.prog 94 = true := by kernel_rfl
@[push_cast] theorem bt94 : boolT Try.prog 94 = false := by kernel_rfl
@[push_cast] theorem pt94 : ptrT Try.prog 94 = false := by kernel_rfl
@[push_cast] theorem lt94 : leavesT Try.prog 94 = none := by kernel_rfl
@[push_cast] theorem k95 : kindT Try.prog 95 = TK.other := by kernel_rfl
@[push_cast] theorem s95 : szT Try.prog 95 = 1 := by kernel_rfl
@[push_cast] theorem a95 : aggO Try.prog 95 = some false := by kernel_rfl
@[push_cast] theorem b95 : byT Try.prog 95 = 8 := by kernel_rfl
@[push_cast] theorem z95 : zeroT Try.prog 95 = AV.nilf := by kernel_rfl
@[push_cast] theorem zk95 : zok Try.prog 95 = true := by kernel_rfl
@[push_cast] theorem bt95 : boolT Try.prog 95 = false := by kernel_rfl
@[push_cast] theorem pt95 : ptrT Try.prog 95 = false := by kernel_rfl
@[push_cast] theorem lt95 : leavesT Try.prog 95 = none := by kernel_rfl
@[push_cast] theorem k96 : kindT Try.prog 96 = TK.other := by kernel_rfl
@[push_cast] theorem s96 : szT Try.prog 96 = 1 := by kernel_rfl
@[push_cast] theorem a96 : aggO Try.prog 96 = some false := by kernel_rfl
@[push_cast] theorem b96 : byT Try.prog 96 = 8 := by kernel_rfl
@[push_cast] theorem z96 : zeroT Try.prog 96 = AV.nilf := by kernel_rfl
@[push_cast] theorem zk96 : zok Try.prog 96 = true := by kernel_rfl
@[push_cast] theorem bt96 : boolT Try.prog 96 = false := by kernel_rfl
@[push_cast] theorem pt96 : ptrT Try.prog 96 = false := by kernel_rfl
@[push_cast] theorem lt96 : leavesT Try.prog 96 = none := by kernel_rfl
@[push_cast] theorem k97 : kindT Try.prog 97 = TK.other := by kernel_rfl
@[push_cast] theorem s97 : szT Try.prog 97 = 1 := by kernel_rfl
@[push_cast] theorem a97 : aggO Try.prog 97 = some false := by kernel_rfl
@[push_cast] theorem b97 : byT Try.prog 97 = 8 := by kernel_rfl
@[push_cast] theorem z97 : zeroT Try.prog 97 = AV.nilf := by kernel_rfl
@[push_cast] theorem zk97 : zok Try.prog 97 = true := by kernel_rfl
@[push_cast] theorem bt97 : boolT Try.prog 97 = false := by kernel_rfl
@[push_cast] theorem pt97 : ptrT Try.prog 97 = false := by kernel_rfl
@[push_cast] theorem lt97 : leavesT Try.prog 97 = none := by kernel_rfl
@[push_cast] theorem k98 : kindT Try.prog 98 = TK.other := by kernel_rfl
@[push_cast] theorem s98 : szT Try.prog 98 = 1 := by kernel_rfl
@[push_cast] theorem a98 : aggO Try.prog 98 = some false := by kernel_rfl
@[push_cast] theorem b98 : byT Try.prog 98 = 8 := by kernel_rfl
@[push_cast] theorem z98 : zeroT Try.prog 98 = AV.nilf := by kernel_rfl
@[push_cast] theorem zk98 : zok Try.prog 98 = true := by kernel_rfl
@[push_cast] theorem bt98 : boolT Try.prog 98 = false := by kernel_rfl
@[push_cast] theorem pt98 : ptrT Try.prog 98 = false := by kernel_rfl
@[push_cast] theorem lt98 : leavesT Try.prog 98 = none := by kernel_rfl
@[push_cast] theorem k99 : kindT Try.prog 99 = TK.other := by kernel_rfl
@[push_cast] theorem s99 : szT Try.prog 99 = 1 := by kernel_rfl
@[push_cast] theorem a99 : aggO Try.prog 99 = some false := by kernel_rfl
@[push_cast] theorem b99 : byT Try.prog 99 = 8 := by kernel_rfl
@[push_cast] theorem z99 : zeroT Try.prog 99 = AV.nilf := by kernel_rfl
@[push_cast] theorem zk99 : zok Try.prog 99 = true := by kernel_rfl
@[push_cast] theorem bt99 : boolT Try.prog 99 = false := by kernel_rfl
@[push_cast] theorem pt99 : ptrT Try.prog 99 = false := by kernel_rfl
@[push_cast] theorem lt99 : leavesT Try.prog 99 = none := by kernel_rfl
@[push_cast] theorem k100 : kindT Try.prog 100 = TK.other := by kernel_rfl
@[push_cast] theorem s100 : szT Try.prog 100 = 1 := by kernel_rfl
@[push_cast] theorem a100 : aggO Try.prog 100 = some false := by kernel_rfl
@[push_cast] theorem b100 : byT Try.prog 100 = 8 := by kernel_rfl
@[push_cast] theorem z100 : zeroT Try.prog 100 = AV.nilf := by kernel_rfl
@[push_cast] theorem zk100 : zok Try.prog 100 = true := by kernel_rfl
@[push_cast] theorem bt100 : boolT Try.prog 100 = false := by kernel_rfl
@[push_cast] theorem pt100 : ptrT Try.prog 100 = false := by kernel_rfl
@[push_cast] theorem lt100 : leavesT Try.prog 100 = none := by kernel_rfl
@[push_cast] theorem k101 : kindT Try.prog 101 = TK.other := by kernel_rfl
@[push_cast] theorem s101 : szT Try.prog 101 = 1 := by kernel_rfl
@[push_cast] theorem a101 : aggO Try.prog 101 = some false := by kernel_rfl
@[push_cast] theorem b101 : byT Try.prog 101 = 8 := by kernel_rfl
@[push_cast] theorem z101 : zeroT Try.prog 101 = AV.nilf := by kernel_rfl
@[push_cast] theorem zk101 : zok Try.prog 101 = true := by kernel_rfl
@[push_cast] theorem bt101 : boolT Try.prog 101 = false := by kernel_rfl
@[push_cast] theorem pt101 : ptrT Try.prog 101 = false := by kernel_rfl
@[push_cast] theorem lt101 : leavesT Try.prog 101 = none := by kernel_rfl
@[push_cast] theorem k102 : kindT Try.prog 102 = TK.other := by kernel_rfl
@[push_cast] theorem s102 : szT Try.prog 102 = 1 := by kernel_rfl
@[push_cast] theorem a102 : aggO Try.prog 102 = some false := by kernel_rfl
@[push_cast] theorem b102 : byT Try.prog 102 = 8 := by kernel_rfl
@[push_cast] theorem z102 : zeroT Try.prog 102 = AV.nilf := by kernel_rfl
@[push_cast] theorem zk102 : zok Try.prog 102 = true := by kernel_rfl
@[push_cast] theorem bt102 : boolT Try.prog 102 = false := by kernel_rfl
@[push_cast] theorem pt102 : ptrT Try.prog 102 = false := by kernel_rfl
@[push_cast] theorem lt102 : leavesT Try.prog 102 = none := by kernel_rfl
@[push_cast] theorem k103 : kindT Try.prog 103 = TK.other := by kernel_rfl
@[push_cast] theorem s103 : szT Try.prog 103 = 1 := by kernel_rfl
@[push_cast] theorem a103 : aggO Try.prog 103 = some false := by kernel_rfl
@[push_cast] theorem b103 : byT Try.prog 103 = 8 := by kernel_rfl
@[push_cast] theorem z103 : zeroT Try.prog 103 = AV.nilf := by kernel_rfl
@[push_cast] theorem zk103 : zok Try.prog 103 = true := by kernel_rfl
@[push_cast] theorem bt103 : boolT Try.prog 103 = false := by kernel_rfl
@[push_cast] theorem pt103 : ptrT Try.prog 103 = false := by kernel_rfl
@[push_cast] theorem lt103 : leavesT Try.prog 103 = none := by kernel_rfl
@[push_cast] theorem k104 : kindT Try.prog 104 = TK.other := by kernel_rfl
@[push_cast] theorem s104 : szT Try.prog 104 = 1 := by kernel_rfl
@[push_cast] theorem a104 : aggO Try.prog 104 = some false := by kernel_rfl
@[push_cast] theorem b104 : byT Try.prog 104 = 8 := by kernel_rfl
@[push_cast] theorem z104 : zeroT Try.prog 104 = AV.nilf := by kernel_rfl
@[push_cast] theorem zk104 : zok Try.prog 104 = true := by kernel_rfl
@[push_cast] theorem bt104 : boolT Try.prog 104 = false := by kernel_rfl
@[push_cast] theorem pt104 : ptrT Try.prog 104 = false := by kernel_rfl
@[push_cast] theorem lt104 : leavesT Try.prog 104 = none := by kernel_rfl
@[push_cast] theorem k105 : kindT Try.prog 105 = TK.other := by kernel_rfl
@[push_cast] theorem s105 : szT Try.prog 105 = 1 := by kernel_rfl
@[push_cast] theorem a105 : aggO Try.prog 105 = some false := by kernel_rfl
@[push_cast] theorem b105 : byT Try.prog 105 = 8 := by kernel_rfl
@[push_cast] theorem z105 : zeroT Try.prog 105 = AV.nilf := by kernel_rfl
@[push_cast] theorem zk105 : zok Try.prog 105 = true := by kernel_rfl
@[push_cast] theorem bt105 : boolT Try.prog 105 = false := by kernel_rfl
@[push_cast] theorem pt105 : ptrT Try.prog 105 = false := by kernel_rfl
@[push_cast] theorem lt105 : leavesT Try.prog 105 = none := by kernel_rfl
@[push_cast] theorem k106 : kindT Try.prog 106 = TK.other := by kernel_rfl
@[push_cast] theorem s106 : szT Try.prog 106 = 1 := by kernel_rfl
@[push_cast] theorem a106 : aggO Try.prog 106 = some false := by kernel_rfl
@[push_cast] theorem b106 : byT Try.prog 106 = 8 := by kernel_rfl
@[push_cast] theorem z106 : zeroT Try.prog 106 = AV.nilf := by kernel_rfl
@[push_cast] theorem zk106 : zok Try.prog 106 = true := by kernel_rfl
@[push_cast] theorem bt106 : boolT Try.prog 106 = false := by kernel_rfl
@[push_cast] theorem pt106 : ptrT Try.prog 106 = false := by kernel_rfl
@[push_cast] theorem lt106 : leavesT Try.prog 106 = none := by kernel_rfl
@[push_cast] theorem k107 : kindT Try.prog 107 = TK.other := by kernel_rfl
@[push_cast] theorem s107 : szT Try.prog 107 = 1 := by kernel_rfl
@[push_cast] theorem a107 : aggO Try.prog 107 = some false := by kernel_rfl
@[push_cast] theorem b107 : byT Try.prog 107 = 8 := by kernel_rfl
@[push_cast] theorem z107 : zeroT Try.prog 107 = AV.nilf := by kernel_rfl
@[push_cast] theorem zk107 : zok Try.prog 107 = true := by kernel_rfl
@[push_cast] theorem bt107 : boolT Try.prog 107 = false := by kernel_rfl
@[push_cast] theorem pt107 : ptrT Try.prog 107 = false := by kernel_rfl
@[push_cast] theorem lt107 : leavesT Try.prog 107 = none := by kernel_rfl
@[push_cast] theorem k108 : kindT Try.prog 108 = TK.int IntKind.u64 := by kernel_rfl
@[push_cast] theorem s108 : szT Try.prog 108 = 1 := by kernel_rfl
@[push_cast] theorem a108 : aggO Try.prog 108 = some false := by kernel_rfl
@[push_cast] theorem b108 : byT Try.prog 108 = 8 := by kernel_rfl
@[push_cast] theorem z108 : zeroT Try.prog 108 = AV.int IntKind.u64 0 := by kernel_rfl
@[push_cast] theorem zk108 : zok Try.prog 108 = true := by kernel_rfl
@[push_cast] theorem bt108 : boolT Try.prog 108 = false := by kernel_rfl
@[push_cast] theorem pt108 : ptrT Try.prog 108 = false := by kernel_rfl
@[push_cast] theorem lt108 : leavesT Try.prog 108 = none := by kernel_rfl
@[push_cast] theorem k109 : kindT Try.prog 109 = TK.other := by kernel_rfl
@[push_cast] theorem s109 : szT Try.prog 109 = 1 := by kernel_rfl
@[push_cast] theorem a109 : aggO Try.prog 109 = some false := by kernel_rfl
@[push_cast] theorem b109 : byT Try.prog 109 = 8 := by kernel_rfl
@[push_cast] theorem z109 : zeroT Try.prog 109 = AV.nilf := by kernel_rfl
@[push_cast] theorem zk109 : zok Try.prog 109 = true := by kernel_rfl
@[push_cast] theorem bt109 : boolT Try.prog 109 = false := by kernel_rfl
@[push_cast] theorem pt109 : ptrT Try.prog 109 = false := by kernel_rfl
@[push_cast] theorem lt109 : leavesT Try.prog 109 = none := by kernel_rfl
@[push_cast] theorem k110 : kindT Try.prog 110 = TK.other := by kernel_rfl
@[push_cast] theorem s110 : szT Try.prog 110 = 1 := by kernel_rfl
@[push_cast] theorem a110 : aggO Try.prog 110 = some false := by kernel_rfl
@[push_cast] theorem b110 : byT Try.prog 110 = 8 := by kernel_rfl
@[push_cast] theorem z110 : zeroT Try.prog 110 = AV.nilf := by kernel_rfl
@[push_cast] theorem zk110 : zok Try.prog 110 = true := by kernel_rfl
@[push_cast] theorem bt110 : boolT Try.prog 110 = false := by kernel_rfl
@[push_cast] theorem pt110 : ptrT Try.prog 110 = false := by kernel_rfl
@[push_cast] theorem lt110 : leavesT Try.prog 110 = none := by kernel_rfl
@[push_cast] theorem k111 : kindT Try.prog 111 = TK.struct := by kernel_rfl
@[push_cast] theorem s111 : szT Try.prog 111 = 4 := by kernel_rfl
@[push_cast] theorem a111 : aggO Try.prog 111 = some true := by kernel_rfl
@[push_cast] theorem b111 : byT Try.prog 111 = 40 := by kernel_rfl
@[push_cast] theorem z111 : zeroT Try.prog 111 = AV.agg [AV.nilp, AV.nilp, AV.nilp, AV.str ⟨#[]⟩] := by kernel_rfl
@[push_cast] theorem zk111 : zok Try.prog 111 = true := by kernel_rfl
@[push_cast] theorem bt111 : boolT Try.prog 111 = false := by kernel_rfl
@[push_cast] theorem pt111 : ptrT Try.prog 111 = false := by kernel_rfl
@[push_cast] theorem lt111 : leavesT Try.prog 111 = none := by kernel_rfl
@[push_cast] theorem fo111 : fieldsOk Try.prog 111 = true := by kernel_rfl
@[push_cast] theorem o111_0 : offT Try.prog 111 0 = some 0 := by kernel_rfl
@[push_cast] theorem f111_0 : fszT Try.prog 111 0 = 1 := by kernel_rfl
@[push_cast] theorem o111_1 : offT Try.prog 111 1 = some 1 := by kernel_rfl
@[push_cast] theorem f111_1 : fszT Try.prog 111 1 = 1 := by kernel_rfl
@[push_cast] theorem o111_2 : offT Try.prog 111 2 = some 2 := by kernel_rfl
@[push_cast] theorem f111_2 : fszT Try.prog 111 2 = 1 := by kernel_rfl
@[push_cast] theorem o111_3 : offT Try.prog 111 3 = some 3 := by kernel_rfl
@[push_cast] theorem f111_3 : fszT Try.prog 111 3 = 1 := by kernel_rfl
@[push_cast] theorem k112 : kindT Try.prog 112 = TK.struct := by kernel_rfl
@[push_cast] theorem s112 : szT Try.prog 112 = 4 := by kernel_rfl
@[push_cast] theorem a112 : aggO Try.prog 112 = some true := by kernel_rfl
@[push_cast] theorem b112 : byT Try.prog 112 = 40 := by kernel_rfl
@[push_cast] theorem z112 : zeroT Try.prog 112 = AV.agg [AV.nilp, AV.nilp, AV.nilp, AV.str ⟨#[]⟩] := by kernel_rfl
@[push_cast] theorem zk112 : zok Try.prog 112 = true := by kernel_rfl
@[push_cast] theorem bt112 : boolT Try.prog 112 = false := by kernel_rfl
@[push_cast] theorem pt112 : ptrT Try.prog 112 = false := by kernel_rfl
@[push_cast] theorem lt112 : leavesT Try.prog 112 = none := by kernel_rfl
@[push_cast] theorem fo112 : fieldsOk Try.prog 112 = true := by kernel_rfl
@[push_cast] theorem o112_0 : offT Try.prog 112 0 = some 0 := by kernel_rfl
@[push_cast] theorem f112_0 : fszT Try.prog 112 0 = 1 := by kernel_rfl
@[push_cast] theorem o112_1 : offT Try.prog 112 1 = some 1 := by kernel_rfl
@[push_cast] theorem f112_1 : fszT Try.prog 112 1 = 1 := by kernel_rfl
@[push_cast] theorem o112_2 : offT Try.prog 112 2 = some 2 := by kernel_rfl
@[push_cast] theorem f112_2 : fszT Try.prog 112 2 = 1 := by kernel_rfl
@[push_cast] theorem o112_3 : offT Try.prog 112 3 = some 3 := by kernel_rfl
@[push_cast] theorem f112_3 : fszT Try.prog 112 3 = 1 := by kernel_rfl
@[push_cast] theorem k113 : kindT Try.prog 113 = TK.array 0 16 := by kernel_rfl
@[push_cast] theorem s113 : szT Try.prog 113 = 0 := by kernel_rfl
@[push_cast] theorem a113 : aggO Try.prog 113 = some true := by kernel_rfl
@[push_cast] theorem b113 : byT Try.prog 113 = 0 := by kernel_rfl
@[push_cast] theorem z113 : zeroT Try.prog 113 = AV.agg [] := by kernel_rfl
@[push_cast] theorem zk113 : zok Try.prog 113 = false := by kernel_rfl
@[push_cast] theorem bt113 : boolT Try.prog 113 = false := by kernel_rfl
@[push_cast] theorem pt113 : ptrT Try.prog 113 = false := by kernel_rfl
@[push_cast] theorem lt113 : leavesT Try.prog 113 = none := by kernel_rfl
@[push_cast] theorem k114 : kindT Try.prog 114 = TK.struct := by kernel_rfl
@[push_cast] theorem s114 : szT Try.prog 114 = 0 := by kernel_rfl
@[push_cast] theorem a114 : aggO Try.prog 114 = some true := by kernel_rfl
@[push_cast] theorem b114 : byT Try.prog 114 = 0 := by kernel_rfl
@[push_cast] theorem z114 : zeroT Try.prog 114 = AV.agg [] := by kernel_rfl
@[push_cast] theorem zk114 : zok Try.prog 114 = false := by kernel_rfl
@[push_cast] theorem bt114 : boolT Try.prog 114 = false := by kernel_rfl
@[push_cast] theorem pt114 : ptrT Try.prog 114 = false := by kernel_rfl
@[push_cast] theorem lt114 : leavesT Try.prog 114 = none := by kernel_rfl
@[push_cast] theorem fo114 : fieldsOk Try.prog 114 = true := by kernel_rfl
@[push_cast] theorem k115 : kindT Try.prog 115 = TK.struct := by kernel_rfl
@[push_cast] theorem s115 : szT Try.prog 115 = 0 := by kernel_rfl
@[push_cast] theorem a115 : aggO Try.prog 115 = some true := by kernel_rfl
@[push_cast] theorem b115 : byT Try.prog 115 = 0 := by kernel_rfl
@[push_cast] theorem z115 : zeroT Try.prog 115 = AV.agg [] := by kernel_rfl
@[push_cast] theorem zk115 : zok Try.prog 115 = false := by kernel_rfl
@[push_cast] theorem bt115 : boolT Try.prog 115 = false := by kernel_rfl
@[push_cast] theorem pt115 : ptrT Try.prog 115 = false := by kernel_rfl
@[push_cast] theorem lt115 : leavesT Try.prog 115 = none := by kernel_rfl
@[push_cast] theorem fo115 : fieldsOk Try.prog 115 = true := by kernel_rfl
@[push_cast] theorem k116 : kindT Try.prog 116 = TK.int IntKind.u32 := by kernel_rfl
@[push_cast] theorem s116 : szT Try.prog 116 = 1 := by kernel_rfl
@[push_cast] theorem a116 : aggO Try.prog 116 = some false := by kernel_rfl
@[push_cast] theorem b116 : byT Try.prog 116 = 4 := by kernel_rfl
@[push_cast] theorem z116 : zeroT Try.prog 116 = AV.int IntKind.u32 0 := by kernel_rfl
@[push_cast] theorem zk116 : zok Try.prog 116 = true := by kernel_rfl
@[push_cast] theorem bt116 : boolT Try.prog 116 = false := by kernel_rfl
@[push_cast] theorem pt116 : ptrT Try.prog 116 = false := by kernel_rfl
@[push_cast] theorem lt116 : leavesT Try.prog 116 = none := by kernel_rfl
@[push_cast] theorem k117 : kindT Try.prog 117 = TK.int IntKind.u8 := by kernel_rfl
@[push_cast] theorem s117 : szT Try.prog 117 = 1 := by kernel_rfl
@[push_cast] theorem a117 : aggO Try.prog 117 = some false := by kernel_rfl
@[push_cast] theorem b117 : byT Try.prog 117 = 1 := by kernel_rfl
@[push_cast] theorem z117 : zeroT Try.prog 117 = AV.int IntKind.u8 0 := by kernel_rfl
@[push_cast] theorem zk117 : zok Try.prog 117 = true := by kernel_rfl
@[push_cast] theorem bt117 : boolT Try.prog 117 = false := by kernel_rfl
@[push_cast] theorem pt117 : ptrT Try.prog 117 = false := by kernel_rfl
@[push_cast] theorem lt117 : leavesT Try.prog 117 = none := by kernel_rfl
@[push_cast] theorem k118 : kindT Try.prog 118 = TK.int IntKind.u8 := by kernel_rfl
@[push_cast] theorem s118 : szT Try.prog 118 = 1 := by kernel_rfl
@[push_cast] theorem a118 : aggO Try.prog 118 = some false := by kernel_rfl
@[push_cast] theorem b118 : byT Try.prog 118 = 1 := by kernel_rfl
@[push_cast] theorem z118 : zeroT Try.prog 118 = AV.int IntKind.u8 0 := by kernel_rfl
@[push_cast] theorem zk118 : zok Try.prog 118 = true := by kernel_rfl
@[push_cast] theorem bt118 : boolT Try.prog 118 = false := by kernel_rfl
@[push_cast] theorem pt118 : ptrT Try.prog 118 = false := by kernel_rfl
@[push_cast] theorem lt118 : leavesT Try.prog 118 = none := by kernel_rfl
@[push_cast] theorem k119 : kindT Try.prog 119 = TK.other := by kernel_rfl
@[push_cast] theorem s119 : szT Try.prog 119 = 1 := by kernel_rfl
@[push_cast] theorem a119 : aggO Try.prog 119 = some false := by kernel_rfl
@[push_cast] theorem b119 : byT Try.prog 119 = 8 := by kernel_rfl
@[push_cast] theorem z119 : zeroT Try.prog 119 = AV.nilf := by kernel_rfl
@[push_cast] theorem zk119 : zok Try.prog 119 = true := by kernel_rfl
@[push_cast] theorem bt119 : boolT Try.prog 119 = false := by kernel_rfl
@[push_cast] theorem pt119 : ptrT Try.prog 119 = false := by kernel_rfl
@[push_cast] theorem lt119 : leavesT Try.prog 119 = none := by kernel_rfl
@[push_cast] theorem k120 : kindT Try.prog 120 = TK.ptr 5 := by kernel_rfl
@[push_cast] theorem s120 : szT Try.prog 120 = 1 := by kernel_rfl
@[push_cast] theorem a120 : aggO Try.prog 120 = some false := by kernel_rfl
@[push_cast] theorem b120 : byT Try.prog 120 = 8 := by kernel_rfl
@[push_cast] theorem z120 : zeroT Try.prog 120 = AV.nilp := by kernel_rfl
@[push_cast] theorem zk120 : zok Try.prog 120 = true := by kernel_rfl
@[push_cast] theorem bt120 : boolT Try.prog 120 = false := by kernel_rfl
@[push_cast] theorem pt120 : ptrT Try.prog 120 = true := by kernel_rfl
@[push_cast] theorem lt120 : leavesT Try.prog 120 = none := by kernel_rfl
@[push_cast] theorem k121 : kindT Try.prog 121 = TK.int IntKind.i32 := by kernel_rfl
@[push_cast] theorem s121 : szT Try.prog 121 = 1 := by kernel_rfl
@[push_cast] theorem a121 : aggO Try.prog 121 = some false := by kernel_rfl
@[push_cast] theorem b121 : byT Try.prog 121 = 4 := by kernel_rfl
@[push_cast] theorem z121 : zeroT Try.prog 121 = AV.int IntKind.i32 0 := by kernel_rfl
@[push_cast] theorem zk121 : zok Try.prog 121 = true := by kernel_rfl
@[push_cast] theorem bt121 : boolT Try.prog 121 = false := by kernel_rfl
@[push_cast] theorem pt121 : ptrT Try.prog 121 = false := by kernel_rfl
@[push_cast] theorem lt121 : leavesT Try.prog 121 = none := by kernel_rfl
@[push_cast] theorem k122 : kindT Try.prog 122 = TK.int IntKind.i32 := by kernel_rfl
@[push_cast] theorem s122 : szT Try.prog 122 = 1 := by kernel_rfl
@[push_cast] theorem a122 : aggO Try.prog 122 = some false := by kernel_rfl
@[push_cast] theorem b122 : byT Try.prog 122 = 4 := by kernel_rfl
@[push_cast] theorem z122 : zeroT Try.prog 122 = AV.int IntKind.i32 0 := by kernel_rfl
@[push_cast] theorem zk122 : zok Try.prog 122 = true := by kernel_rfl
@[push_cast] theorem bt122 : boolT Try.prog 122 = false := by kernel_rfl
@[push_cast] theorem pt122 : ptrT Try.prog 122 = false := by kernel_rfl
@[push_cast] theorem lt122 : leavesT Try.prog 122 = none := by kernel_rfl
@[push_cast] theorem k123 : kindT Try.prog 123 = TK.struct := by kernel_rfl
@[push_cast] theorem s123 : szT Try.prog 123 = 11 := by kernel_rfl
@[push_cast] theorem a123 : aggO Try.prog 123 = some true := by kernel_rfl
@[push_cast] theorem b123 : byT Try.prog 123 = 48 := by kernel_rfl
@[push_cast] theorem z123 : zeroT Try.prog 123 = AV.agg [AV.int IntKind.u64 0, AV.int IntKind.u64 0, AV.int IntKind.u32 0, AV.int IntKind.u8 0, AV.int IntKind.u8 0, AV.int IntKind.u8 0, AV.int IntKind.u8 0, AV.nilf, AV.nilp, AV.int IntKind.i32 0, AV.int IntKind.i32 0] := by kernel_rfl
@[push_cast] theorem zk123 : zok Try.prog 123 = true := by kernel_rfl
@[push_cast] theorem bt123 : boolT Try.prog 123 = false := by kernel_rfl
@[push_cast] theorem pt123 : ptrT Try.prog 123 = false := by kernel_rfl
@[push_cast] theorem lt123 : leavesT Try.prog 123 = none := by kernel_rfl
@[push_cast] theorem fo123 : fieldsOk Try.prog 123 = true := by kernel_rfl
@[push_cast] theorem o123_0 : offT Try.prog 123 0 = some 0 := by kernel_rfl
@[push_cast] theorem f123_0 : fszT Try.prog 123 0 = 1 := by kernel_rfl
@[push_cast] theorem o123_1 : offT Try.prog 123 1 = some 1 := by kernel_rfl
@[push_cast] theorem f123_1 : fszT Try.prog 123 1 = 1 := by kernel_rfl
@[push_cast] theorem o123_2 : offT Try.prog 123 2 = some 2 := by kernel_rfl
@[push_cast] theorem f123_2 : fszT Try.prog 123 2 = 1 := by kernel_rfl
@[push_cast] theorem o123_3 : offT Try.prog 123 3 = some 3 := by kernel_rfl
@[push_cast] theorem f123_3 : fszT Try.prog 123 3 = 1 := by kernel_rfl
@[push_cast] theorem o123_4 : offT Try.prog 123 4 = some 4 := by kernel_rfl
@[push_cast] theorem f123_4 : fszT Try.prog 123 4 = 1 := by kernel_rfl
@[push_cast] theorem o123_5 : offT Try.prog 123 5 = some 5 := by kernel_rfl
@[push_cast] theorem f123_5 : fszT Try.prog 123 5 = 1 := by kernel_rfl
@[push_cast] theorem o123_6 : offT Try.prog 123 6 = some 6 := by kernel_rfl
@[push_cast] theorem f123_6 : fszT Try.prog 123 6 = 1 := by kernel_rfl
@[push_cast] theorem o123_7 : offT Try.prog 123 7 = some 7 := by kernel_rfl
@[push_cast] theorem f123_7 : fszT Try.prog 123 7 = 1 := by kernel_rfl
@[push_cast] theorem o123_8 : offT Try.prog 123 8 = some 8 := by kernel_rfl
@[push_cast] theorem f123_8 : fszT Try.prog 123 8 = 1 := by kernel_rfl
@[push_cast] theorem o123_9 : offT Try.prog 123 9 = some 9 := by kernel_rfl
@[push_cast] theorem f123_9 : fszT Try.prog 123 9 = 1 := by kernel_rfl
@[push_cast] theorem o123_10 : offT Try.prog 123 10 = some 10 := by kernel_rfl
@[push_cast] theorem f123_10 : fszT Try.prog 123 10 = 1 := by kernel_rfl
@[push_cast] theorem k124 : kindT Try.prog 124 = TK.struct := by kernel_rfl
@[push_cast] theorem s124 : szT Try.prog 124 = 11 := by kernel_rfl
@[push_cast] theorem a124 : aggO Try.prog 124 = some true := by kernel_rfl
@[push_cast] theorem b124 : byT Try.prog 124 = 48 := by kernel_rfl
@[push_cast] theorem z124 : zeroT Try.prog 124 = AV.agg [AV.int IntKind.u64 0, AV.int IntKind.u64 0, AV.int IntKind.u32 0, AV.int IntKind.u8 0, AV.int IntKind.u8 0, AV.int IntKind.u8 0, AV.int IntKind.u8 0, AV.nilf, AV.nilp, AV.int IntKind.i32 0, AV.int IntKind.i32 0] := by kernel_rfl
@[push_cast] theorem zk124 : zok Try.prog 124 = true := by kernel_rfl
@[push_cast] theorem bt124 : boolT Try.prog 124 = false := by kernel_rfl
@[push_cast] theorem pt124 : ptrT Try.prog 124 = false := by kernel_rfl
@[push_cast] theorem lt124 : leavesT Try.prog 124 = none := by kernel_rfl
@[push_cast] theorem fo124 : fieldsOk Try.prog 124 = true := by kernel_rfl
@[push_cast] theorem o124_0 : offT Try.prog 124 0 = some 0 := by kernel_rfl
@[push_cast] theorem f124_0 : fszT Try.prog 124 0 = 1 := by kernel_rfl
@[push_cast] theorem o124_1 : offT Try.prog 124 1 = some 1 := by kernel_rfl
@[push_cast] theorem f124_1 : fszT Try.prog 124 1 = 1 := by kernel_rfl
@[push_cast] theorem o124_2 : offT Try.prog 124 2 = some 2 := by kernel_rfl
@[push_cast] theorem f124_2 : fszT Try.prog 124 2 = 1 := by kernel_rfl
@[push_cast] theorem o124_3 : offT Try.prog 124 3 = some 3 := by kernel_rfl
@[push_cast] theorem f124_3 : fszT Try.prog 124 3 = 1 := by kernel_rfl
@[push_cast] theorem o124_4 : offT Try.prog 124 4 = some 4 := by kernel_rfl
@[push_cast] theorem f124_4 : fszT Try.prog 124 4 = 1 := by kernel_rfl
@[push_cast] theorem o124_5 : offT Try.prog 124 5 = some 5 := by kernel_rfl
@[push_cast] theorem f124_5 : fszT Try.prog 124 5 = 1 := by kernel_rfl
@[push_cast] theorem o124_6 : offT Try.prog 124 6 = some 6 := by kernel_rfl
@[push_cast] theorem f124_6 : fszT Try.prog 124 6 = 1 := by kernel_rfl
@[push_cast] theorem o124_7 : offT Try.prog 124 7 = some 7 := by kernel_rfl
@[push_cast] theorem f124_7 : fszT Try.prog 124 7 = 1 := by kernel_rfl
@[push_cast] theorem o124_8 : offT Try.prog 124 8 = some 8 := by kernel_rfl
@[push_cast] theorem f124_8 : fszT Try.prog 124 8 = 1 := by kernel_rfl
@[push_cast] theorem o124_9 : offT Try.prog 124 9 = some 9 := by kernel_rfl
@[push_cast] theorem f124_9 : fszT Try.prog 124 9 = 1 := by kernel_rfl
@[push_cast] theorem o124_10 : offT Try.prog 124 10 = some 10 := by kernel_rfl
@[push_cast] theorem f124_10 : fszT Try.prog 124 10 = 1 := by kernel_rfl
@[push_cast] theorem k125 : kindT Try.prog 125 = TK.other := by kernel_rfl
@[push_cast] theorem s125 : szT Try.prog 125 = 1 := by kernel_rfl
@[push_cast] theorem a125 : aggO Try.prog 125 = some false := by kernel_rfl
@[push_cast] theorem b125 : byT Try.prog 125 = 8 := by kernel_rfl
@[push_cast] theorem z125 : zeroT Try.prog 125 = AV.nilp := by kernel_rfl
@[push_cast] theorem zk125 : zok Try.prog 125 = true := by kernel_rfl
@[push_cast] theorem bt125 : boolT Try.prog 125 = false := by kernel_rfl
@[push_cast] theorem pt125 : ptrT Try.prog 125 = false := by kernel_rfl
@[push_cast] theorem lt125 : leavesT Try.prog 125 = none := by kernel_rfl
end Go.Ev

set_option linter.unusedVariables false
set_option linter.unusedSimpArgs false
namespace Go.Ev
set_option maxRecDepth 100000
set_option maxHeartbeats 0
attribute [push_cast] List.take_length List.length_append Nat.sub_zero Nat.zero_add Nat.add_zero Nat.le_refl Int.zero_add decide_true decide_false ite_self decide_eq_true_eq Int.ofNat_inj Int.ofNat_le gt_iff_lt ge_iff_le IntWalk.i64_in IntWalk.u8_in IntWalk.u64_in
theorem call_by2 {P : Program} {n0 : Nat} {d : Option Tmp} {all l : List Oper} {r : List Item} {Q : Exit → S → Prop} {s : S} {g : FuncId} {args : List AV} (gm : List Bool) {ta : List AV} {res : AV} {outs : List AV} (hs : Spec P g ta res outs) {x : List AV × Mem × Prop} {y : List AV × List Nat × Prop}
    (h : giveL gm s.b args = some x ∧ lendA gm x.2.1 x.1 = some y ∧ y.1 = ta ∧ (x.2.2 ∧ y.2.2 ∧ (y.2.1 = [] ∨ NoF res ∧ noFG gm outs)))
    (hk : @Run P n0 ⟨.ops all l :: r, Q⟩ .mk .normal ((putN s (unf res (backG gm x.2.1 args outs) s.n)).put d (unf res (backG gm x.2.1 args outs) s.n).1)) : @CallR P n0 ⟨d, all, l, r, Q⟩ .mk s g args := call_by gm hs h.1 h.2.1 h.2.2.1 h.2.2.2 hk
open Go.Proofs
structure RecA where
  off : Int
  key : List UInt8
  val : List UInt8
  gone : Bool
  time : Int
deriving DecidableEq
def encA (r : RecA) : AV := .agg [.int .i64 r.off, .str (ofL r.key), .str (ofL r.val), .bool r.gone, .int .i64 r.time]
theorem encA_cells {r : RecA} : cellsOf (encA r) = [.int .i64 r.off, .str (ofL r.key), .str (ofL r.val), .bool r.gone, .int .i64 r.time] := rfl
theorem encA_low {r : RecA} : low (encA r) = encA r := by simp [encA, low, lowL]
theorem encA_bd {r : RecA} {n : Nat} : Bd n (encA r) = True := by simp [encA, Bd, BdL]
theorem encA_noO {r : RecA} : NoO (encA r) = True := by simp [encA, NoO, NoOL]
theorem encA_noF {r : RecA} : NoF (encA r) = True := by simp [encA, NoF, NoFL]
theorem encA_okE {r : RecA} : okE 5 (encA r) = True := by simp [encA, okE, cellsOf, allC1, C1]
attribute [push_cast] encA_cells encA_low encA_bd encA_noO encA_noF encA_okE
structure One where
  step : Int
  raw : Bool
  key : List UInt8
  val : List UInt8
  gone : Bool
  time : Int
deriving DecidableEq
def encO (r : One) : AV := .agg [.int .i64 r.step, .bool r.raw, .str (ofL r.key), .str (ofL r.val), .bool r.gone, .int .i64 r.time]
theorem encO_cells {r : One} : cellsOf (encO r) = [.int .i64 r.step, .bool r.raw, .str (ofL r.key), .str (ofL r.val), .bool r.gone, .int .i64 r.time] := rfl
theorem encO_low {r : One} : low (encO r) = encO r := by simp [encO, low, lowL]
theorem encO_bd {r : One} {n : Nat} : Bd n (encO r) = True := by simp [encO, Bd, BdL]
theorem encO_noO {r : One} : NoO (encO r) = True := by simp [encO, NoO, NoOL]
theorem encO_noF {r : One} : NoF (encO r) = True := by simp [encO, NoF, NoFL]
theorem encO_okE {r : One} : okE 6 (encO r) = True := by simp [encO, okE, cellsOf, allC1, C1]
attribute [push_cast] encO_cells encO_low encO_bd encO_noO encO_noF encO_okE
end Go.Ev

set_option linter.unusedVariables false
set_option linter.unusedSimpArgs false
namespace Go.Ev
set_option maxRecDepth 100000
set_option maxHeartbeats 0
open Go.Proofs
theorem recA_ext {a b : RecA} (h1 : a.off = b.off) (h2 : a.key = b.key) (h3 : a.val = b.val) (h4 : a.gone = b.gone) (h5 : a.time = b.time) : a = b := by
  cases a; cases b; simp_all
theorem alike_spec (f g : Bool) (a b : List RecA) : Spec Try.prog 13 [.lst f 5 (a.map encA), .lst g 5 (b.map encA)] (.bool (decide (a = b))) [.lst f 5 (a.map encA), .lst g 5 (b.map encA)] := by
  refine spec_run (P := Try.prog) (f := 13) (fn := Try.f13) (by kernel_rfl) (by kernel_rfl) rfl (by simp [Try.f13]) ?_; simp (maxSteps := 1000000) (disch := omega) only [push_cast, go_sem, Nat.reduceEqDiff, ↓reduceIte, reduceCtorEq, Nat.reduceAdd, Nat.reduceSub, Nat.reduceLeDiff, Nat.reduceLT, Int.reduceLT, Int.reduceLE, Int.reduceEq, Int.reduceNeg, Nat.reduceMul, Int.reduceAdd, Int.reduceToNat, Try.f13, *]
  repeat' (first
    | with_reducible refine And.intro ?_ ?_
    | (with_reducible intro hx; (try simp only [false_dec, true_dec, Int.ofNat_inj, gt_iff_lt, ge_iff_le, decide_eq_true_eq, decide_eq_false_iff_not, Bool.not_eq_true', Bool.not_eq_false', Bool.and_eq_true, Bool.or_eq_false_iff, ne_eq, Classical.not_not] at hx); (first | (exfalso; omega) | (try simp (maxSteps := 1000000) (disch := omega) only [push_cast, go_sem, Nat.reduceEqDiff, ↓reduceIte, reduceCtorEq, Nat.reduceAdd, Nat.reduceSub, Nat.reduceLeDiff, Nat.reduceLT, Int.reduceLT, Int.reduceLE, Int.reduceEq, Int.reduceNeg, Nat.reduceMul, Int.reduceAdd, Int.reduceToNat, *])))
    | (with_reducible refine branch_t ?_; (try simp (maxSteps := 1000000) (disch := omega) only [push_cast, go_sem, Nat.reduceEqDiff, ↓reduceIte, reduceCtorEq, Nat.reduceAdd, Nat.reduceSub, Nat.reduceLeDiff, Nat.reduceLT, Int.reduceLT, Int.reduceLE, Int.reduceEq, Int.reduceNeg, Nat.reduceMul, Int.reduceAdd, Int.reduceToNat, *]))
    | (with_reducible refine branch_f ?_; (try simp (maxSteps := 1000000) (disch := omega) only [push_cast, go_sem, Nat.reduceEqDiff, ↓reduceIte, reduceCtorEq, Nat.reduceAdd, Nat.reduceSub, Nat.reduceLeDiff, Nat.reduceLT, Int.reduceLT, Int.reduceLE, Int.reduceEq, Int.reduceNeg, Nat.reduceMul, Int.reduceAdd, Int.reduceToNat, *]))
    | (with_reducible refine cond_split ?_ ?_)
    | (with_reducible refine guard_split ?_ ?_)
    | ((with_reducible refine drw_open 0 ?_); simp (maxSteps := 1000000) (disch := omega) only [push_cast, go_sem, Nat.reduceEqDiff, ↓reduceIte, reduceCtorEq, Nat.reduceAdd, Nat.reduceSub, Nat.reduceLeDiff, Nat.reduceLT, Int.reduceLT, Int.reduceLE, Int.reduceEq, Int.reduceNeg, Nat.reduceMul, Int.reduceAdd, Int.reduceToNat, *]; (with_reducible refine drw_id ?_))
    | ((with_reducible refine drw_open 1 ?_); simp (maxSteps := 1000000) (disch := omega) only [push_cast, go_sem, Nat.reduceEqDiff, ↓reduceIte, reduceCtorEq, Nat.reduceAdd, Nat.reduceSub, Nat.reduceLeDiff, Nat.reduceLT, Int.reduceLT, Int.reduceLE, Int.reduceEq, Int.reduceNeg, Nat.reduceMul, Int.reduceAdd, Int.reduceToNat, *]; (with_reducible refine drw_id ?_))
    | ((with_reducible refine drw_open 2 ?_); simp (maxSteps := 1000000) (disch := omega) only [push_cast, go_sem, Nat.reduceEqDiff, ↓reduceIte, reduceCtorEq, Nat.reduceAdd, Nat.reduceSub, Nat.reduceLeDiff, Nat.reduceLT, Int.reduceLT, Int.reduceLE, Int.reduceEq, Int.reduceNeg, Nat.reduceMul, Int.reduceAdd, Int.reduceToNat, *]; (with_reducible refine drw_id ?_))
    | ((with_reducible refine drw_intro ?_ ?_); (focus decide +kernel); (try simp (maxSteps := 1000000) (disch := omega) only [push_cast, go_sem, Nat.reduceEqDiff, ↓reduceIte, reduceCtorEq, Nat.reduceAdd, Nat.reduceSub, Nat.reduceLeDiff, Nat.reduceLT, Int.reduceLT, Int.reduceLE, Int.reduceEq, Int.reduceNeg, Nat.reduceMul, Int.reduceAdd, Int.reduceToNat, *]))
    | (with_reducible refine still_split ?_ ?_)
    | omega)
  · have : a ≠ b := fun e => by rw [e] at hx; exact hx rfl
    simp [this]
  · refine loop_by (σ := Nat) (fun i N => ([(13, .int .i64 i), (12, .int .i64 b.length), (11, .lst f 5 (a.map encA)), (0, .lst f 5 (a.map encA)), (1, .lst g 5 (b.map encA))], []))
      (fun i => i ≤ b.length ∧ a.take i = b.take i) (fun i => b.length - i) 0 _ (by simp) (by simp (maxSteps := 1000000) (disch := omega) only [push_cast, go_sem, Nat.reduceEqDiff, ↓reduceIte, reduceCtorEq, Nat.reduceAdd, Nat.reduceSub, Nat.reduceLeDiff, Nat.reduceLT, Int.reduceLT, Int.reduceLE, Int.reduceEq, Int.reduceNeg, Nat.reduceMul, Int.reduceAdd, Int.reduceToNat, *]) (by simp (maxSteps := 1000000) (disch := omega) only [push_cast, go_sem, Nat.reduceEqDiff, ↓reduceIte, reduceCtorEq, Nat.reduceAdd, Nat.reduceSub, Nat.reduceLeDiff, Nat.reduceLT, Int.reduceLT, Int.reduceLE, Int.reduceEq, Int.reduceNeg, Nat.reduceMul, Int.reduceAdd, Int.reduceToNat, *]) (Nat.le_refl _) ?_
    rintro i N hN ⟨hi, hinv⟩
    simp (maxSteps := 1000000) (disch := omega) only [push_cast, go_sem, Nat.reduceEqDiff, ↓reduceIte, reduceCtorEq, Nat.reduceAdd, Nat.reduceSub, Nat.reduceLeDiff, Nat.reduceLT, Int.reduceLT, Int.reduceLE, Int.reduceEq, Int.reduceNeg, Nat.reduceMul, Int.reduceAdd, Int.reduceToNat, *]
    repeat' (first
    | with_reducible refine And.intro ?_ ?_
    | (with_reducible intro hx; (try simp only [false_dec, true_dec, Int.ofNat_inj, gt_iff_lt, ge_iff_le, decide_eq_true_eq, decide_eq_false_iff_not, Bool.not_eq_true', Bool.not_eq_false', Bool.and_eq_true, Bool.or_eq_false_iff, ne_eq, Classical.not_not] at hx); (first | (exfalso; omega) | (try simp (maxSteps := 1000000) (disch := omega) only [push_cast, go_sem, Nat.reduceEqDiff, ↓reduceIte, reduceCtorEq, Nat.reduceAdd, Nat.reduceSub, Nat.reduceLeDiff, Nat.reduceLT, Int.reduceLT, Int.reduceLE, Int.reduceEq, Int.reduceNeg, Nat.reduceMul, Int.reduceAdd, Int.reduceToNat, *])))
    | (with_reducible refine branch_t ?_; (try simp (maxSteps := 1000000) (disch := omega) only [push_cast, go_sem, Nat.reduceEqDiff, ↓reduceIte, reduceCtorEq, Nat.reduceAdd, Nat.reduceSub, Nat.reduceLeDiff, Nat.reduceLT, Int.reduceLT, Int.reduceLE, Int.reduceEq, Int.reduceNeg, Nat.reduceMul, Int.reduceAdd, Int.reduceToNat, *]))
    | (with_reducible refine branch_f ?_; (try simp (maxSteps := 1000000) (disch := omega) only [push_cast, go_sem, Nat.reduceEqDiff, ↓reduceIte, reduceCtorEq, Nat.reduceAdd, Nat.reduceSub, Nat.reduceLeDiff, Nat.reduceLT, Int.reduceLT, Int.reduceLE, Int.reduceEq, Int.reduceNeg, Nat.reduceMul, Int.reduceAdd, Int.reduceToNat, *]))
    | (with_reducible refine cond_split ?_ ?_)
    | (with_reducible refine guard_split ?_ ?_)
    | ((with_reducible refine drw_open 0 ?_); simp (maxSteps := 1000000) (disch := omega) only [push_cast, go_sem, Nat.reduceEqDiff, ↓reduceIte, reduceCtorEq, Nat.reduceAdd, Nat.reduceSub, Nat.reduceLeDiff, Nat.reduceLT, Int.reduceLT, Int.reduceLE, Int.reduceEq, Int.reduceNeg, Nat.reduceMul, Int.reduceAdd, Int.reduceToNat, *]; (with_reducible refine drw_id ?_))
    | ((with_reducible refine drw_open 1 ?_); simp (maxSteps := 1000000) (disch := omega) only [push_cast, go_sem, Nat.reduceEqDiff, ↓reduceIte, reduceCtorEq, Nat.reduceAdd, Nat.reduceSub, Nat.reduceLeDiff, Nat.reduceLT, Int.reduceLT, Int.reduceLE, Int.reduceEq, Int.reduceNeg, Nat.reduceMul, Int.reduceAdd, Int.reduceToNat, *]; (with_reducible refine drw_id ?_))
    | ((with_reducible refine drw_open 2 ?_); simp (maxSteps := 1000000) (disch := omega) only [push_cast, go_sem, Nat.reduceEqDiff, ↓reduceIte, reduceCtorEq, Nat.reduceAdd, Nat.reduceSub, Nat.reduceLeDiff, Nat.reduceLT, Int.reduceLT, Int.reduceLE, Int.reduceEq, Int.reduceNeg, Nat.reduceMul, Int.reduceAdd, Int.reduceToNat, *]; (with_reducible refine drw_id ?_))
    | ((with_reducible refine drw_intro ?_ ?_); (focus decide +kernel); (try simp (maxSteps := 1000000) (disch := omega) only [push_cast, go_sem, Nat.reduceEqDiff, ↓reduceIte, reduceCtorEq, Nat.reduceAdd, Nat.reduceSub, Nat.reduceLeDiff, Nat.reduceLT, Int.reduceLT, Int.reduceLE, Int.reduceEq, Int.reduceNeg, Nat.reduceMul, Int.reduceAdd, Int.reduceToNat, *]))
    | (with_reducible refine still_split ?_ ?_)
    | omega)
    · have : a ≠ b := fun e => by subst e; revert hx; simp
      simp [this]
    · rename_i hlt he
      refine loop_end (i + 1) _ (by omega) ⟨by omega, ?_⟩ (by omega) (by simp (maxSteps := 1000000) (disch := omega) only [push_cast, go_sem, Nat.reduceEqDiff, ↓reduceIte, reduceCtorEq, Nat.reduceAdd, Nat.reduceSub, Nat.reduceLeDiff, Nat.reduceLT, Int.reduceLT, Int.reduceLE, Int.reduceEq, Int.reduceNeg, Nat.reduceMul, Int.reduceAdd, Int.reduceToNat, *]) (by simp (maxSteps := 1000000) (disch := omega) only [push_cast, go_sem, Nat.reduceEqDiff, ↓reduceIte, reduceCtorEq, Nat.reduceAdd, Nat.reduceSub, Nat.reduceLeDiff, Nat.reduceLT, Int.reduceLT, Int.reduceLE, Int.reduceEq, Int.reduceNeg, Nat.reduceMul, Int.reduceAdd, Int.reduceToNat, *]) (Nat.le_refl _)
      rw [List.take_add_one, List.take_add_one, hinv, List.getElem?_eq_getElem (by omega), List.getElem?_eq_getElem (by omega)]
      rw [recA_ext (a := a[i]) (b := b[i]) he hx.1 hx.2.1 hx.2.2.1 hx.2.2.2]
    · have : a ≠ b := fun e => by subst e; exact hx rfl
      simp [this]
    · have : a = b := by rw [List.take_of_length_le (by omega), List.take_of_length_le (by omega)] at hinv; exact hinv
      simp [this]
/-- What stays of records. -/
def cleanL (h : Int) : List RecA → List RecA
  | [] => []
  | r :: l => if (l.all fun x => !decide (x.key = r.key)) && !(r.gone && decide (r.time < h)) then r :: cleanL h l else cleanL h l
theorem cleanL_cons {h : Int} {r : RecA} {l : List RecA} : cleanL h (r :: l) = (if (l.all fun x => !decide (x.key = r.key)) && !(r.gone && decide (r.time < h)) then [r] else []) ++ cleanL h l := by
  simp only [cleanL]; split <;> simp
theorem rclean_spec (f : Bool) (h : Int) (a : List RecA) (ha : a.length ≤ 1000) : Spec Try.prog 11 [.int .i64 h, .lst f 5 (a.map encA)] (.olst 5 ((cleanL h a).map encA)) [.int .i64 h, .lst f 5 (a.map encA)] := by
  refine spec_run (P := Try.prog) (f := 11) (fn := Try.f11) (by kernel_rfl) (by kernel_rfl) rfl (by simp [Try.f11]) ?_; simp (maxSteps := 1000000) (disch := omega) only [push_cast, go_sem, Nat.reduceEqDiff, ↓reduceIte, reduceCtorEq, Nat.reduceAdd, Nat.reduceSub, Nat.reduceLeDiff, Nat.reduceLT, Int.reduceLT, Int.reduceLE, Int.reduceEq, Int.reduceNeg, Nat.reduceMul, Int.reduceAdd, Int.reduceToNat, Try.f11, *]
  repeat' (first
    | with_reducible refine And.intro ?_ ?_
    | (with_reducible intro hx; (try simp only [false_dec, true_dec, Int.ofNat_inj, gt_iff_lt, ge_iff_le, decide_eq_true_eq, decide_eq_false_iff_not, Bool.not_eq_true', Bool.not_eq_false', Bool.and_eq_true, Bool.or_eq_false_iff, ne_eq, Classical.not_not] at hx); (first | (exfalso; omega) | (try simp (maxSteps := 1000000) (disch := omega) only [push_cast, go_sem, Nat.reduceEqDiff, ↓reduceIte, reduceCtorEq, Nat.reduceAdd, Nat.reduceSub, Nat.reduceLeDiff, Nat.reduceLT, Int.reduceLT, Int.reduceLE, Int.reduceEq, Int.reduceNeg, Nat.reduceMul, Int.reduceAdd, Int.reduceToNat, *])))
    | (with_reducible refine branch_t ?_; (try simp (maxSteps := 1000000) (disch := omega) only [push_cast, go_sem, Nat.reduceEqDiff, ↓reduceIte, reduceCtorEq, Nat.reduceAdd, Nat.reduceSub, Nat.reduceLeDiff, Nat.reduceLT, Int.reduceLT, Int.reduceLE, Int.reduceEq, Int.reduceNeg, Nat.reduceMul, Int.reduceAdd, Int.reduceToNat, *]))
    | (with_reducible refine branch_f ?_; (try simp (maxSteps := 1000000) (disch := omega) only [push_cast, go_sem, Nat.reduceEqDiff, ↓reduceIte, reduceCtorEq, Nat.reduceAdd, Nat.reduceSub, Nat.reduceLeDiff, Nat.reduceLT, Int.reduceLT, Int.reduceLE, Int.reduceEq, Int.reduceNeg, Nat.reduceMul, Int.reduceAdd, Int.reduceToNat, *]))
    | (with_reducible refine cond_split ?_ ?_)
    | (with_reducible refine guard_split ?_ ?_)
    | ((with_reducible refine drw_open 0 ?_); simp (maxSteps := 1000000) (disch := omega) only [push_cast, go_sem, Nat.reduceEqDiff, ↓reduceIte, reduceCtorEq, Nat.reduceAdd, Nat.reduceSub, Nat.reduceLeDiff, Nat.reduceLT, Int.reduceLT, Int.reduceLE, Int.reduceEq, Int.reduceNeg, Nat.reduceMul, Int.reduceAdd, Int.reduceToNat, *]; (with_reducible refine drw_id ?_))
    | ((with_reducible refine drw_open 1 ?_); simp (maxSteps := 1000000) (disch := omega) only [push_cast, go_sem, Nat.reduceEqDiff, ↓reduceIte, reduceCtorEq, Nat.reduceAdd, Nat.reduceSub, Nat.reduceLeDiff, Nat.reduceLT, Int.reduceLT, Int.reduceLE, Int.reduceEq, Int.reduceNeg, Nat.reduceMul, Int.reduceAdd, Int.reduceToNat, *]; (with_reducible refine drw_id ?_))
    | ((with_reducible refine drw_open 2 ?_); simp (maxSteps := 1000000) (disch := omega) only [push_cast, go_sem, Nat.reduceEqDiff, ↓reduceIte, reduceCtorEq, Nat.reduceAdd, Nat.reduceSub, Nat.reduceLeDiff, Nat.reduceLT, Int.reduceLT, Int.reduceLE, Int.reduceEq, Int.reduceNeg, Nat.reduceMul, Int.reduceAdd, Int.reduceToNat, *]; (with_reducible refine drw_id ?_))
    | ((with_reducible refine drw_intro ?_ ?_); (focus decide +kernel); (try simp (maxSteps := 1000000) (disch := omega) only [push_cast, go_sem, Nat.reduceEqDiff, ↓reduceIte, reduceCtorEq, Nat.reduceAdd, Nat.reduceSub, Nat.reduceLeDiff, Nat.reduceLT, Int.reduceLT, Int.reduceLE, Int.reduceEq, Int.reduceNeg, Nat.reduceMul, Int.reduceAdd, Int.reduceToNat, *]))
    | (with_reducible refine still_split ?_ ?_)
    | omega)
  refine loop_by (σ := Nat × List RecA) (fun x N => ([(13, .int .i64 x.1), (12, .int .i64 a.length), (11, .lst f 5 (a.map encA)), (5, .row 1 x.2.length 0 x.2.length), (0, .int .i64 h), (1, .lst f 5 (a.map encA))], [(1, .row 5 (x.2.map encA) false)]))
    (fun x => x.1 ≤ a.length ∧ x.2.length ≤ x.1 ∧ x.2 ++ cleanL h (a.drop x.1) = cleanL h a) (fun x => a.length - x.1) (0, []) _ (by simp) (by simp (maxSteps := 1000000) (disch := omega) only [push_cast, go_sem, Nat.reduceEqDiff, ↓reduceIte, reduceCtorEq, Nat.reduceAdd, Nat.reduceSub, Nat.reduceLeDiff, Nat.reduceLT, Int.reduceLT, Int.reduceLE, Int.reduceEq, Int.reduceNeg, Nat.reduceMul, Int.reduceAdd, Int.reduceToNat, *]) (by simp (maxSteps := 1000000) (disch := omega) only [push_cast, go_sem, Nat.reduceEqDiff, ↓reduceIte, reduceCtorEq, Nat.reduceAdd, Nat.reduceSub, Nat.reduceLeDiff, Nat.reduceLT, Int.reduceLT, Int.reduceLE, Int.reduceEq, Int.reduceNeg, Nat.reduceMul, Int.reduceAdd, Int.reduceToNat, *]) (Nat.le_refl _) ?_
  rintro ⟨i, acc⟩ N hN ⟨hi, hacc, hinv⟩
  dsimp only at *
  simp (maxSteps := 1000000) (disch := omega) only [push_cast, go_sem, Nat.reduceEqDiff, ↓reduceIte, reduceCtorEq, Nat.reduceAdd, Nat.reduceSub, Nat.reduceLeDiff, Nat.reduceLT, Int.reduceLT, Int.reduceLE, Int.reduceEq, Int.reduceNeg, Nat.reduceMul, Int.reduceAdd, Int.reduceToNat, *]
  repeat' (first
    | with_reducible refine And.intro ?_ ?_
    | (with_reducible intro hx; (try simp only [false_dec, true_dec, Int.ofNat_inj, gt_iff_lt, ge_iff_le, decide_eq_true_eq, decide_eq_false_iff_not, Bool.not_eq_true', Bool.not_eq_false', Bool.and_eq_true, Bool.or_eq_false_iff, ne_eq, Classical.not_not] at hx); (first | (exfalso; omega) | (try simp (maxSteps := 1000000) (disch := omega) only [push_cast, go_sem, Nat.reduceEqDiff, ↓reduceIte, reduceCtorEq, Nat.reduceAdd, Nat.reduceSub, Nat.reduceLeDiff, Nat.reduceLT, Int.reduceLT, Int.reduceLE, Int.reduceEq, Int.reduceNeg, Nat.reduceMul, Int.reduceAdd, Int.reduceToNat, *])))
    | (with_reducible refine branch_t ?_; (try simp (maxSteps := 1000000) (disch := omega) only [push_cast, go_sem, Nat.reduceEqDiff, ↓reduceIte, reduceCtorEq, Nat.reduceAdd, Nat.reduceSub, Nat.reduceLeDiff, Nat.reduceLT, Int.reduceLT, Int.reduceLE, Int.reduceEq, Int.reduceNeg, Nat.reduceMul, Int.reduceAdd, Int.reduceToNat, *]))
    | (with_reducible refine branch_f ?_; (try simp (maxSteps := 1000000) (disch := omega) only [push_cast, go_sem, Nat.reduceEqDiff, ↓reduceIte, reduceCtorEq, Nat.reduceAdd, Nat.reduceSub, Nat.reduceLeDiff, Nat.reduceLT, Int.reduceLT, Int.reduceLE, Int.reduceEq, Int.reduceNeg, Nat.reduceMul, Int.reduceAdd, Int.reduceToNat, *]))
    | (with_reducible refine cond_split ?_ ?_)
    | (with_reducible refine guard_split ?_ ?_)
    | ((with_reducible refine drw_open 0 ?_); simp (maxSteps := 1000000) (disch := omega) only [push_cast, go_sem, Nat.reduceEqDiff, ↓reduceIte, reduceCtorEq, Nat.reduceAdd, Nat.reduceSub, Nat.reduceLeDiff, Nat.reduceLT, Int.reduceLT, Int.reduceLE, Int.reduceEq, Int.reduceNeg, Nat.reduceMul, Int.reduceAdd, Int.reduceToNat, *]; (with_reducible refine drw_id ?_))
    | ((with_reducible refine drw_open 1 ?_); simp (maxSteps := 1000000) (disch := omega) only [push_cast, go_sem, Nat.reduceEqDiff, ↓reduceIte, reduceCtorEq, Nat.reduceAdd, Nat.reduceSub, Nat.reduceLeDiff, Nat.reduceLT, Int.reduceLT, Int.reduceLE, Int.reduceEq, Int.reduceNeg, Nat.reduceMul, Int.reduceAdd, Int.reduceToNat, *]; (with_reducible refine drw_id ?_))
    | ((with_reducible refine drw_open 2 ?_); simp (maxSteps := 1000000) (disch := omega) only [push_cast, go_sem, Nat.reduceEqDiff, ↓reduceIte, reduceCtorEq, Nat.reduceAdd, Nat.reduceSub, Nat.reduceLeDiff, Nat.reduceLT, Int.reduceLT, Int.reduceLE, Int.reduceEq, Int.reduceNeg, Nat.reduceMul, Int.reduceAdd, Int.reduceToNat, *]; (with_reducible refine drw_id ?_))
    | ((with_reducible refine drw_intro ?_ ?_); (focus decide +kernel); (try simp (maxSteps := 1000000) (disch := omega) only [push_cast, go_sem, Nat.reduceEqDiff, ↓reduceIte, reduceCtorEq, Nat.reduceAdd, Nat.reduceSub, Nat.reduceLeDiff, Nat.reduceLT, Int.reduceLT, Int.reduceLE, Int.reduceEq, Int.reduceNeg, Nat.reduceMul, Int.reduceAdd, Int.reduceToNat, *]))
    | (with_reducible refine still_split ?_ ?_)
    | omega)
  · rename_i hlt
    refine loop_by (σ := Nat × Bool) (fun x N' => ([(23, .int .i64 x.1), (22, .int .i64 (a.drop (i + 1)).length), (21, .lst f 5 ((a.drop (i + 1)).map encA)), (8, .bool x.2), (7, .loc N 0), (13, .int .i64 i), (12, .int .i64 a.length), (11, .lst f 5 (a.map encA)), (5, .row 1 acc.length 0 acc.length), (0, .int .i64 h), (1, .lst f 5 (a.map encA))], [(N, .obj (encA a[i])), (1, .row 5 (acc.map encA) false)]))
      (fun x => x.1 ≤ (a.drop (i + 1)).length ∧ x.2 = ((a.drop (i + 1)).take x.1).all fun x => !decide (x.key = a[i].key)) (fun x => (a.drop (i + 1)).length - x.1) (0, true) _ (by simp) (by simp (maxSteps := 1000000) (disch := omega) only [push_cast, go_sem, Nat.reduceEqDiff, ↓reduceIte, reduceCtorEq, Nat.reduceAdd, Nat.reduceSub, Nat.reduceLeDiff, Nat.reduceLT, Int.reduceLT, Int.reduceLE, Int.reduceEq, Int.reduceNeg, Nat.reduceMul, Int.reduceAdd, Int.reduceToNat, *]) (by simp (maxSteps := 1000000) (disch := omega) only [push_cast, go_sem, Nat.reduceEqDiff, ↓reduceIte, reduceCtorEq, Nat.reduceAdd, Nat.reduceSub, Nat.reduceLeDiff, Nat.reduceLT, Int.reduceLT, Int.reduceLE, Int.reduceEq, Int.reduceNeg, Nat.reduceMul, Int.reduceAdd, Int.reduceToNat, *] <;> rfl) (Nat.le_refl _) ?_
    rintro ⟨j, last⟩ N' hN' ⟨hj, hlast⟩
    dsimp only at *
    simp (maxSteps := 1000000) (disch := omega) only [push_cast, go_sem, Nat.reduceEqDiff, ↓reduceIte, reduceCtorEq, Nat.reduceAdd, Nat.reduceSub, Nat.reduceLeDiff, Nat.reduceLT, Int.reduceLT, Int.reduceLE, Int.reduceEq, Int.reduceNeg, Nat.reduceMul, Int.reduceAdd, Int.reduceToNat, *]
    repeat' (first
    | with_reducible refine And.intro ?_ ?_
    | (with_reducible intro hx; (try simp only [false_dec, true_dec, Int.ofNat_inj, gt_iff_lt, ge_iff_le, decide_eq_true_eq, decide_eq_false_iff_not, Bool.not_eq_true', Bool.not_eq_false', Bool.and_eq_true, Bool.or_eq_false_iff, ne_eq, Classical.not_not] at hx); (first | (exfalso; omega) | (try simp (maxSteps := 1000000) (disch := omega) only [push_cast, go_sem, Nat.reduceEqDiff, ↓reduceIte, reduceCtorEq, Nat.reduceAdd, Nat.reduceSub, Nat.reduceLeDiff, Nat.reduceLT, Int.reduceLT, Int.reduceLE, Int.reduceEq, Int.reduceNeg, Nat.reduceMul, Int.reduceAdd, Int.reduceToNat, *])))
    | (with_reducible refine branch_t ?_; (try simp (maxSteps := 1000000) (disch := omega) only [push_cast, go_sem, Nat.reduceEqDiff, ↓reduceIte, reduceCtorEq, Nat.reduceAdd, Nat.reduceSub, Nat.reduceLeDiff, Nat.reduceLT, Int.reduceLT, Int.reduceLE, Int.reduceEq, Int.reduceNeg, Nat.reduceMul, Int.reduceAdd, Int.reduceToNat, *]))
    | (with_reducible refine branch_f ?_; (try simp (maxSteps := 1000000) (disch := omega) only [push_cast, go_sem, Nat.reduceEqDiff, ↓reduceIte, reduceCtorEq, Nat.reduceAdd, Nat.reduceSub, Nat.reduceLeDiff, Nat.reduceLT, Int.reduceLT, Int.reduceLE, Int.reduceEq, Int.reduceNeg, Nat.reduceMul, Int.reduceAdd, Int.reduceToNat, *]))
    | (with_reducible refine cond_split ?_ ?_)
    | (with_reducible refine guard_split ?_ ?_)
    | ((with_reducible refine drw_open 0 ?_); simp (maxSteps := 1000000) (disch := omega) only [push_cast, go_sem, Nat.reduceEqDiff, ↓reduceIte, reduceCtorEq, Nat.reduceAdd, Nat.reduceSub, Nat.reduceLeDiff, Nat.reduceLT, Int.reduceLT, Int.reduceLE, Int.reduceEq, Int.reduceNeg, Nat.reduceMul, Int.reduceAdd, Int.reduceToNat, *]; (with_reducible refine drw_id ?_))
    | ((with_reducible refine drw_open 1 ?_); simp (maxSteps := 1000000) (disch := omega) only [push_cast, go_sem, Nat.reduceEqDiff, ↓reduceIte, reduceCtorEq, Nat.reduceAdd, Nat.reduceSub, Nat.reduceLeDiff, Nat.reduceLT, Int.reduceLT, Int.reduceLE, Int.reduceEq, Int.reduceNeg, Nat.reduceMul, Int.reduceAdd, Int.reduceToNat, *]; (with_reducible refine drw_id ?_))
    | ((with_reducible refine drw_open 2 ?_); simp (maxSteps := 1000000) (disch := omega) only [push_cast, go_sem, Nat.reduceEqDiff, ↓reduceIte, reduceCtorEq, Nat.reduceAdd, Nat.reduceSub, Nat.reduceLeDiff, Nat.reduceLT, Int.reduceLT, Int.reduceLE, Int.reduceEq, Int.reduceNeg, Nat.reduceMul, Int.reduceAdd, Int.reduceToNat, *]; (with_reducible refine drw_id ?_))
    | ((with_reducible refine drw_intro ?_ ?_); (focus decide +kernel); (try simp (maxSteps := 1000000) (disch := omega) only [push_cast, go_sem, Nat.reduceEqDiff, ↓reduceIte, reduceCtorEq, Nat.reduceAdd, Nat.reduceSub, Nat.reduceLeDiff, Nat.reduceLT, Int.reduceLT, Int.reduceLE, Int.reduceEq, Int.reduceNeg, Nat.reduceMul, Int.reduceAdd, Int.reduceToNat, *]))
    | (with_reducible refine still_split ?_ ?_)
    | omega)
    · refine loop_end (j + 1, ((a.drop (i + 1)).take (j + 1)).all fun x => !decide (x.key = a[i].key)) _ (by omega) ⟨by omega, rfl⟩ (by omega) ?_ (by simp (maxSteps := 1000000) (disch := omega) only [push_cast, go_sem, Nat.reduceEqDiff, ↓reduceIte, reduceCtorEq, Nat.reduceAdd, Nat.reduceSub, Nat.reduceLeDiff, Nat.reduceLT, Int.reduceLT, Int.reduceLE, Int.reduceEq, Int.reduceNeg, Nat.reduceMul, Int.reduceAdd, Int.reduceToNat, *]) (Nat.le_refl _)
      simp (maxSteps := 1000000) (disch := omega) only [push_cast, go_sem, Nat.reduceEqDiff, ↓reduceIte, reduceCtorEq, Nat.reduceAdd, Nat.reduceSub, Nat.reduceLeDiff, Nat.reduceLT, Int.reduceLT, Int.reduceLE, Int.reduceEq, Int.reduceNeg, Nat.reduceMul, Int.reduceAdd, Int.reduceToNat, *]
      rename_i hlj
      rw [all_take_succ hlj, hx]; rfl
    · rename_i hlj
      refine loop_end (j + 1, ((a.drop (i + 1)).take (j + 1)).all fun x => !decide (x.key = a[i].key)) _ (by omega) ⟨by omega, rfl⟩ (by omega) ?_ (by simp (maxSteps := 1000000) (disch := omega) only [push_cast, go_sem, Nat.reduceEqDiff, ↓reduceIte, reduceCtorEq, Nat.reduceAdd, Nat.reduceSub, Nat.reduceLeDiff, Nat.reduceLT, Int.reduceLT, Int.reduceLE, Int.reduceEq, Int.reduceNeg, Nat.reduceMul, Int.reduceAdd, Int.reduceToNat, *]) (Nat.le_refl _)
      simp (maxSteps := 1000000) (disch := omega) only [push_cast, go_sem, Nat.reduceEqDiff, ↓reduceIte, reduceCtorEq, Nat.reduceAdd, Nat.reduceSub, Nat.reduceLeDiff, Nat.reduceLT, Int.reduceLT, Int.reduceLE, Int.reduceEq, Int.reduceNeg, Nat.reduceMul, Int.reduceAdd, Int.reduceToNat, *]
      rw [all_take_succ hlj, hx]; rfl
    all_goals
      have hdrop : a.drop i = a[i] :: a.drop (i + 1) := List.drop_eq_getElem_cons hlt
      have hj' : (a.drop (i + 1)).take j = a.drop (i + 1) := List.take_of_length_le (by omega)
      rw [hdrop, cleanL_cons] at hinv
    · rename_i h1 h2 h3
      have h4 := hx
      rw [hj'] at h2
      rw [h2, h3] at hinv
      refine loop_end (i + 1, acc ++ [a[i]]) _ (by omega) ⟨by omega, by simp; omega, ?_⟩ (by omega) ?_ ?_ (Nat.le_refl _)
      · rw [← hinv]; simp [h4]
      · simp (maxSteps := 1000000) (disch := omega) only [push_cast, go_sem, Nat.reduceEqDiff, ↓reduceIte, reduceCtorEq, Nat.reduceAdd, Nat.reduceSub, Nat.reduceLeDiff, Nat.reduceLT, Int.reduceLT, Int.reduceLE, Int.reduceEq, Int.reduceNeg, Nat.reduceMul, Int.reduceAdd, Int.reduceToNat, *] <;> simp
      · simp (maxSteps := 1000000) (disch := omega) only [push_cast, go_sem, Nat.reduceEqDiff, ↓reduceIte, reduceCtorEq, Nat.reduceAdd, Nat.reduceSub, Nat.reduceLeDiff, Nat.reduceLT, Int.reduceLT, Int.reduceLE, Int.reduceEq, Int.reduceNeg, Nat.reduceMul, Int.reduceAdd, Int.reduceToNat, *]
        simp [encA, h3]
    · rename_i h1 h2 h3
      have h4 := hx
      rw [hj'] at h2
      rw [h2, h3] at hinv
      refine loop_end (i + 1, acc) _ (by omega) ⟨by omega, by dsimp only; omega, ?_⟩ (by omega) (by simp (maxSteps := 1000000) (disch := omega) only [push_cast, go_sem, Nat.reduceEqDiff, ↓reduceIte, reduceCtorEq, Nat.reduceAdd, Nat.reduceSub, Nat.reduceLeDiff, Nat.reduceLT, Int.reduceLT, Int.reduceLE, Int.reduceEq, Int.reduceNeg, Nat.reduceMul, Int.reduceAdd, Int.reduceToNat, *]) (by simp (maxSteps := 1000000) (disch := omega) only [push_cast, go_sem, Nat.reduceEqDiff, ↓reduceIte, reduceCtorEq, Nat.reduceAdd, Nat.reduceSub, Nat.reduceLeDiff, Nat.reduceLT, Int.reduceLT, Int.reduceLE, Int.reduceEq, Int.reduceNeg, Nat.reduceMul, Int.reduceAdd, Int.reduceToNat, *]) (Nat.le_refl _)
      rw [← hinv]; simp [h4]
    · rename_i h1 h2
      have h3 := hx
      rw [hj'] at h2
      rw [h2, h3] at hinv
      refine loop_end (i + 1, acc ++ [a[i]]) _ (by omega) ⟨by omega, by simp; omega, ?_⟩ (by omega) ?_ ?_ (Nat.le_refl _)
      · rw [← hinv]; simp
      · simp (maxSteps := 1000000) (disch := omega) only [push_cast, go_sem, Nat.reduceEqDiff, ↓reduceIte, reduceCtorEq, Nat.reduceAdd, Nat.reduceSub, Nat.reduceLeDiff, Nat.reduceLT, Int.reduceLT, Int.reduceLE, Int.reduceEq, Int.reduceNeg, Nat.reduceMul, Int.reduceAdd, Int.reduceToNat, *] <;> simp
      · simp (maxSteps := 1000000) (disch := omega) only [push_cast, go_sem, Nat.reduceEqDiff, ↓reduceIte, reduceCtorEq, Nat.reduceAdd, Nat.reduceSub, Nat.reduceLeDiff, Nat.reduceLT, Int.reduceLT, Int.reduceLE, Int.reduceEq, Int.reduceNeg, Nat.reduceMul, Int.reduceAdd, Int.reduceToNat, *]
        simp [encA, h3]
    · rename_i h1
      have h2 := hx
      rw [hj'] at h2
      rw [h2] at hinv
      refine loop_end (i + 1, acc) _ (by omega) ⟨by omega, by dsimp only; omega, ?_⟩ (by omega) (by simp (maxSteps := 1000000) (disch := omega) only [push_cast, go_sem, Nat.reduceEqDiff, ↓reduceIte, reduceCtorEq, Nat.reduceAdd, Nat.reduceSub, Nat.reduceLeDiff, Nat.reduceLT, Int.reduceLT, Int.reduceLE, Int.reduceEq, Int.reduceNeg, Nat.reduceMul, Int.reduceAdd, Int.reduceToNat, *]) (by simp (maxSteps := 1000000) (disch := omega) only [push_cast, go_sem, Nat.reduceEqDiff, ↓reduceIte, reduceCtorEq, Nat.reduceAdd, Nat.reduceSub, Nat.reduceLeDiff, Nat.reduceLT, Int.reduceLT, Int.reduceLE, Int.reduceEq, Int.reduceNeg, Nat.reduceMul, Int.reduceAdd, Int.reduceToNat, *]) (Nat.le_refl _)
      rw [← hinv]; simp
  · have : i = a.length := by omega
    subst this
    simp [cleanL] at hinv
    rw [hinv]
end Go.Ev

set_option linter.unusedVariables false
set_option linter.unusedSimpArgs false
namespace Go.Ev
set_option maxRecDepth 100000
set_option maxHeartbeats 0
open Go.Proofs
def mput (m : List (List UInt8 × Nat)) (k : List UInt8) (i : Nat) : List (List UInt8 × Nat) := match m with
  | [] => [(k, i)]
  | (a, j) :: r => if k = a then (k, i) :: r else (a, j) :: mput r k i
def mget (m : List (List UInt8 × Nat)) (k : List UInt8) : Option Nat := match m with
  | [] => none
  | (a, j) :: r => if k = a then some j else mget r k
def encK (p : List UInt8 × Nat) : AV := .str (ofL p.1)
def encI (p : List UInt8 × Nat) : AV := .int .i64 p.2
theorem setM_map (m : List (List UInt8 × Nat)) (k : List UInt8) (i : Nat) : setM .str (.str (ofL k)) (.int .i64 i) (m.map encK) (m.map encI) = some ((mput m k i).map encK, (mput m k i).map encI) := by
  induction m with
  | nil => rfl
  | cons p r ih =>
    obtain ⟨a, j⟩ := p
    simp only [List.map_cons, setM, encK, encI, eqK, Option.bind_some, mput, ofL_toList, beq_list, decide_eq_true_eq]
    split
    · rfl
    · simp [ih, encK, encI]
theorem findM_map (m : List (List UInt8 × Nat)) (k : List UInt8) : findM .str (.str (ofL k)) (m.map encK) (m.map encI) = some ((mget m k).map fun j => .int .i64 j) := by
  induction m with
  | nil => rfl
  | cons p r ih =>
    obtain ⟨a, j⟩ := p
    simp only [List.map_cons, findM, encK, encI, eqK, Option.bind_some, mget, ofL_toList, beq_list, decide_eq_true_eq]
    split
    · rfl
    · exact ih
theorem bd_encK {p : List UInt8 × Nat} : Bd 0 (encK p) = True := by simp [encK, Bd]
theorem bd_encI {p : List UInt8 × Nat} : Bd 0 (encI p) = True := by simp [encI, Bd]
attribute [push_cast] setM_map findM_map bd_encK bd_encI
theorem mget_mput {m : List (List UInt8 × Nat)} {k k' : List UInt8} {i : Nat} : mget (mput m k i) k' = if k' = k then some i else mget m k' := by
  induction m with
  | nil => simp [mput, mget]
  | cons p r ih =>
    obtain ⟨a, j⟩ := p
    simp only [mput]
    by_cases h : k = a
    · subst h; simp only [if_true, mget]; split <;> rfl
    · simp only [if_neg h, mget, ih]
      by_cases h2 : k' = a
      · subst h2; simp [Ne.symm h]
      · simp [h2]
def lastM (l : List RecA) : Nat → List (List UInt8 × Nat)
  | 0 => []
  | n + 1 => match l[n]? with
    | some r => mput (lastM l n) r.key n
    | none => lastM l n
theorem lastM_succ {l : List RecA} {i : Nat} (h : i < l.length) : lastM l (i + 1) = mput (lastM l i) l[i].key i := by simp [lastM, h]
theorem last_spec (fl : Bool) (l : List RecA) : Spec Try.prog 35 [.lst fl 5 (l.map encA)] (.omp ((lastM l l.length).map encK) ((lastM l l.length).map encI)) [.lst fl 5 (l.map encA)] := by
  refine spec_run (P := Try.prog) (f := 35) (fn := Try.f35) (by kernel_rfl) (by kernel_rfl) rfl (by simp [Try.f35]) ?_; simp (maxSteps := 1000000) (disch := omega) only [push_cast, go_sem, Nat.reduceEqDiff, ↓reduceIte, reduceCtorEq, Nat.reduceAdd, Nat.reduceSub, Nat.reduceLeDiff, Nat.reduceLT, Int.reduceLT, Int.reduceLE, Int.reduceEq, Int.reduceNeg, Nat.reduceMul, Int.reduceAdd, Int.reduceToNat, Try.f35, *]
  repeat' (first
    | with_reducible refine And.intro ?_ ?_
    | (with_reducible intro hx; (try simp only [false_dec, true_dec, Int.ofNat_inj, gt_iff_lt, ge_iff_le, decide_eq_true_eq, decide_eq_false_iff_not, Bool.not_eq_true', Bool.not_eq_false', Bool.and_eq_true, Bool.or_eq_false_iff, ne_eq, Classical.not_not] at hx); (first | (exfalso; omega) | (try simp (maxSteps := 1000000) (disch := omega) only [push_cast, go_sem, Nat.reduceEqDiff, ↓reduceIte, reduceCtorEq, Nat.reduceAdd, Nat.reduceSub, Nat.reduceLeDiff, Nat.reduceLT, Int.reduceLT, Int.reduceLE, Int.reduceEq, Int.reduceNeg, Nat.reduceMul, Int.reduceAdd, Int.reduceToNat, *])))
    | (with_reducible refine branch_t ?_; (try simp (maxSteps := 1000000) (disch := omega) only [push_cast, go_sem, Nat.reduceEqDiff, ↓reduceIte, reduceCtorEq, Nat.reduceAdd, Nat.reduceSub, Nat.reduceLeDiff, Nat.reduceLT, Int.reduceLT, Int.reduceLE, Int.reduceEq, Int.reduceNeg, Nat.reduceMul, Int.reduceAdd, Int.reduceToNat, *]))
    | (with_reducible refine branch_f ?_; (try simp (maxSteps := 1000000) (disch := omega) only [push_cast, go_sem, Nat.reduceEqDiff, ↓reduceIte, reduceCtorEq, Nat.reduceAdd, Nat.reduceSub, Nat.reduceLeDiff, Nat.reduceLT, Int.reduceLT, Int.reduceLE, Int.reduceEq, Int.reduceNeg, Nat.reduceMul, Int.reduceAdd, Int.reduceToNat, *]))
    | (with_reducible refine cond_split ?_ ?_)
    | (with_reducible refine guard_split ?_ ?_)
    | ((with_reducible refine drw_open 0 ?_); simp (maxSteps := 1000000) (disch := omega) only [push_cast, go_sem, Nat.reduceEqDiff, ↓reduceIte, reduceCtorEq, Nat.reduceAdd, Nat.reduceSub, Nat.reduceLeDiff, Nat.reduceLT, Int.reduceLT, Int.reduceLE, Int.reduceEq, Int.reduceNeg, Nat.reduceMul, Int.reduceAdd, Int.reduceToNat, *]; (with_reducible refine drw_id ?_))
    | ((with_reducible refine drw_open 1 ?_); simp (maxSteps := 1000000) (disch := omega) only [push_cast, go_sem, Nat.reduceEqDiff, ↓reduceIte, reduceCtorEq, Nat.reduceAdd, Nat.reduceSub, Nat.reduceLeDiff, Nat.reduceLT, Int.reduceLT, Int.reduceLE, Int.reduceEq, Int.reduceNeg, Nat.reduceMul, Int.reduceAdd, Int.reduceToNat, *]; (with_reducible refine drw_id ?_))
    | ((with_reducible refine drw_open 2 ?_); simp (maxSteps := 1000000) (disch := omega) only [push_cast, go_sem, Nat.reduceEqDiff, ↓reduceIte, reduceCtorEq, Nat.reduceAdd, Nat.reduceSub, Nat.reduceLeDiff, Nat.reduceLT, Int.reduceLT, Int.reduceLE, Int.reduceEq, Int.reduceNeg, Nat.reduceMul, Int.reduceAdd, Int.reduceToNat, *]; (with_reducible refine drw_id ?_))
    | ((with_reducible refine drw_intro ?_ ?_); (focus decide +kernel); (try simp (maxSteps := 1000000) (disch := omega) only [push_cast, go_sem, Nat.reduceEqDiff, ↓reduceIte, reduceCtorEq, Nat.reduceAdd, Nat.reduceSub, Nat.reduceLeDiff, Nat.reduceLT, Int.reduceLT, Int.reduceLE, Int.reduceEq, Int.reduceNeg, Nat.reduceMul, Int.reduceAdd, Int.reduceToNat, *]))
    | (with_reducible refine still_split ?_ ?_)
    | omega)
  refine loop_by (σ := Nat) (fun i N => ([(11, .int .i64 i), (10, .int .i64 l.length), (9, .lst fl 5 (l.map encA)), (3, .mp 0), (0, .lst fl 5 (l.map encA))], [(0, .map ((lastM l i).map encK) ((lastM l i).map encI))]))
    (fun i => i ≤ l.length) (fun i => l.length - i) 0 _ (by simp) (by simp (maxSteps := 1000000) (disch := omega) only [push_cast, go_sem, Nat.reduceEqDiff, ↓reduceIte, reduceCtorEq, Nat.reduceAdd, Nat.reduceSub, Nat.reduceLeDiff, Nat.reduceLT, Int.reduceLT, Int.reduceLE, Int.reduceEq, Int.reduceNeg, Nat.reduceMul, Int.reduceAdd, Int.reduceToNat, *]) (by simp (maxSteps := 1000000) (disch := omega) only [push_cast, go_sem, Nat.reduceEqDiff, ↓reduceIte, reduceCtorEq, Nat.reduceAdd, Nat.reduceSub, Nat.reduceLeDiff, Nat.reduceLT, Int.reduceLT, Int.reduceLE, Int.reduceEq, Int.reduceNeg, Nat.reduceMul, Int.reduceAdd, Int.reduceToNat, *]; exact ⟨rfl, rfl⟩) (Nat.le_refl _) ?_
  intro i N hN hi
  simp (maxSteps := 1000000) (disch := omega) only [push_cast, go_sem, Nat.reduceEqDiff, ↓reduceIte, reduceCtorEq, Nat.reduceAdd, Nat.reduceSub, Nat.reduceLeDiff, Nat.reduceLT, Int.reduceLT, Int.reduceLE, Int.reduceEq, Int.reduceNeg, Nat.reduceMul, Int.reduceAdd, Int.reduceToNat, *]
  repeat' (first
    | with_reducible refine And.intro ?_ ?_
    | (with_reducible intro hx; (try simp only [false_dec, true_dec, Int.ofNat_inj, gt_iff_lt, ge_iff_le, decide_eq_true_eq, decide_eq_false_iff_not, Bool.not_eq_true', Bool.not_eq_false', Bool.and_eq_true, Bool.or_eq_false_iff, ne_eq, Classical.not_not] at hx); (first | (exfalso; omega) | (try simp (maxSteps := 1000000) (disch := omega) only [push_cast, go_sem, Nat.reduceEqDiff, ↓reduceIte, reduceCtorEq, Nat.reduceAdd, Nat.reduceSub, Nat.reduceLeDiff, Nat.reduceLT, Int.reduceLT, Int.reduceLE, Int.reduceEq, Int.reduceNeg, Nat.reduceMul, Int.reduceAdd, Int.reduceToNat, *])))
    | (with_reducible refine branch_t ?_; (try simp (maxSteps := 1000000) (disch := omega) only [push_cast, go_sem, Nat.reduceEqDiff, ↓reduceIte, reduceCtorEq, Nat.reduceAdd, Nat.reduceSub, Nat.reduceLeDiff, Nat.reduceLT, Int.reduceLT, Int.reduceLE, Int.reduceEq, Int.reduceNeg, Nat.reduceMul, Int.reduceAdd, Int.reduceToNat, *]))
    | (with_reducible refine branch_f ?_; (try simp (maxSteps := 1000000) (disch := omega) only [push_cast, go_sem, Nat.reduceEqDiff, ↓reduceIte, reduceCtorEq, Nat.reduceAdd, Nat.reduceSub, Nat.reduceLeDiff, Nat.reduceLT, Int.reduceLT, Int.reduceLE, Int.reduceEq, Int.reduceNeg, Nat.reduceMul, Int.reduceAdd, Int.reduceToNat, *]))
    | (with_reducible refine cond_split ?_ ?_)
    | (with_reducible refine guard_split ?_ ?_)
    | ((with_reducible refine drw_open 0 ?_); simp (maxSteps := 1000000) (disch := omega) only [push_cast, go_sem, Nat.reduceEqDiff, ↓reduceIte, reduceCtorEq, Nat.reduceAdd, Nat.reduceSub, Nat.reduceLeDiff, Nat.reduceLT, Int.reduceLT, Int.reduceLE, Int.reduceEq, Int.reduceNeg, Nat.reduceMul, Int.reduceAdd, Int.reduceToNat, *]; (with_reducible refine drw_id ?_))
    | ((with_reducible refine drw_open 1 ?_); simp (maxSteps := 1000000) (disch := omega) only [push_cast, go_sem, Nat.reduceEqDiff, ↓reduceIte, reduceCtorEq, Nat.reduceAdd, Nat.reduceSub, Nat.reduceLeDiff, Nat.reduceLT, Int.reduceLT, Int.reduceLE, Int.reduceEq, Int.reduceNeg, Nat.reduceMul, Int.reduceAdd, Int.reduceToNat, *]; (with_reducible refine drw_id ?_))
    | ((with_reducible refine drw_open 2 ?_); simp (maxSteps := 1000000) (disch := omega) only [push_cast, go_sem, Nat.reduceEqDiff, ↓reduceIte, reduceCtorEq, Nat.reduceAdd, Nat.reduceSub, Nat.reduceLeDiff, Nat.reduceLT, Int.reduceLT, Int.reduceLE, Int.reduceEq, Int.reduceNeg, Nat.reduceMul, Int.reduceAdd, Int.reduceToNat, *]; (with_reducible refine drw_id ?_))
    | ((with_reducible refine drw_intro ?_ ?_); (focus decide +kernel); (try simp (maxSteps := 1000000) (disch := omega) only [push_cast, go_sem, Nat.reduceEqDiff, ↓reduceIte, reduceCtorEq, Nat.reduceAdd, Nat.reduceSub, Nat.reduceLeDiff, Nat.reduceLT, Int.reduceLT, Int.reduceLE, Int.reduceEq, Int.reduceNeg, Nat.reduceMul, Int.reduceAdd, Int.reduceToNat, *]))
    | (with_reducible refine still_split ?_ ?_)
    | omega)
  · rename_i hlt
    refine loop_end (i + 1) _ (by omega) (by omega) (by omega) (by simp (maxSteps := 1000000) (disch := omega) only [push_cast, go_sem, Nat.reduceEqDiff, ↓reduceIte, reduceCtorEq, Nat.reduceAdd, Nat.reduceSub, Nat.reduceLeDiff, Nat.reduceLT, Int.reduceLT, Int.reduceLE, Int.reduceEq, Int.reduceNeg, Nat.reduceMul, Int.reduceAdd, Int.reduceToNat, *]) ?_ (Nat.le_refl _)
    rw [lastM_succ hx]
    simp (maxSteps := 1000000) (disch := omega) only [push_cast, go_sem, Nat.reduceEqDiff, ↓reduceIte, reduceCtorEq, Nat.reduceAdd, Nat.reduceSub, Nat.reduceLeDiff, Nat.reduceLT, Int.reduceLT, Int.reduceLE, Int.reduceEq, Int.reduceNeg, Nat.reduceMul, Int.reduceAdd, Int.reduceToNat, *]
  · have : i = l.length := by omega
    subst this; rfl
/-- Is it a key's last record? -/
def lone (a : List RecA) (i : Nat) (k : List UInt8) : Bool := (a.drop (i + 1)).all fun x => !decide (x.key = k)
theorem last_get {a : List RecA} : ∀ (n : Nat), n ≤ a.length → ∀ (i : Nat) (r : RecA), i < n → a[i]? = some r → ∃ j, mget (lastM a n) r.key = some j ∧ (j = i ↔ (((a.take n).drop (i + 1)).all fun x => !decide (x.key = r.key)) = true)
  | 0, _, i, r, hi, hr => by omega
  | n + 1, hn, i, r, hi, hr => by
    rw [lastM_succ (by omega), mget_mput]
    by_cases h : i = n
    · subst h
      have hr' : a[i] = r := by rw [List.getElem?_eq_getElem (by omega)] at hr; injection hr
      refine ⟨i, by rw [hr']; simp, ?_⟩
      have : (a.take (i + 1)).drop (i + 1) = [] := List.drop_eq_nil_of_le (by simp; omega)
      rw [this]; simp
    · obtain ⟨j, hj, hji⟩ := last_get n (by omega) i r (by omega) hr
      have e : (a.take (n + 1)).drop (i + 1) = (a.take n).drop (i + 1) ++ [a[n]] := by
        rw [List.take_add_one, List.getElem?_eq_getElem (by omega), List.drop_append_of_le_length (by simp; omega)]; rfl
      rw [e, List.all_append]
      by_cases hk : r.key = a[n].key
      · refine ⟨n, by rw [if_pos hk], ?_⟩
        constructor
        · intro h'; exact absurd h'.symm h
        · intro h'; simp [hk] at h'
      · refine ⟨j, by rw [if_neg hk]; exact hj, ?_⟩
        rw [hji]
        simp [Ne.symm hk]
theorem clean_spec (f : Bool) (h : Int) (a : List RecA) (ha : a.length ≤ 1000) : Spec Try.prog 12 [.int .i64 h, .lst f 5 (a.map encA)] (.olst 5 ((cleanL h a).map encA)) [.int .i64 h, .lst f 5 (a.map encA)] := by
  refine spec_run (P := Try.prog) (f := 12) (fn := Try.f12) (by kernel_rfl) (by kernel_rfl) rfl (by simp [Try.f12]) ?_; simp (maxSteps := 1000000) (disch := omega) only [push_cast, go_sem, Nat.reduceEqDiff, ↓reduceIte, reduceCtorEq, Nat.reduceAdd, Nat.reduceSub, Nat.reduceLeDiff, Nat.reduceLT, Int.reduceLT, Int.reduceLE, Int.reduceEq, Int.reduceNeg, Nat.reduceMul, Int.reduceAdd, Int.reduceToNat, Try.f12, *]
  repeat' (first
    | with_reducible refine And.intro ?_ ?_
    | (with_reducible intro hx; (try simp only [false_dec, true_dec, Int.ofNat_inj, gt_iff_lt, ge_iff_le, decide_eq_true_eq, decide_eq_false_iff_not, Bool.not_eq_true', Bool.not_eq_false', Bool.and_eq_true, Bool.or_eq_false_iff, ne_eq, Classical.not_not] at hx); (first | (exfalso; omega) | (try simp (maxSteps := 1000000) (disch := omega) only [push_cast, go_sem, Nat.reduceEqDiff, ↓reduceIte, reduceCtorEq, Nat.reduceAdd, Nat.reduceSub, Nat.reduceLeDiff, Nat.reduceLT, Int.reduceLT, Int.reduceLE, Int.reduceEq, Int.reduceNeg, Nat.reduceMul, Int.reduceAdd, Int.reduceToNat, *])))
    | (with_reducible refine branch_t ?_; (try simp (maxSteps := 1000000) (disch := omega) only [push_cast, go_sem, Nat.reduceEqDiff, ↓reduceIte, reduceCtorEq, Nat.reduceAdd, Nat.reduceSub, Nat.reduceLeDiff, Nat.reduceLT, Int.reduceLT, Int.reduceLE, Int.reduceEq, Int.reduceNeg, Nat.reduceMul, Int.reduceAdd, Int.reduceToNat, *]))
    | (with_reducible refine branch_f ?_; (try simp (maxSteps := 1000000) (disch := omega) only [push_cast, go_sem, Nat.reduceEqDiff, ↓reduceIte, reduceCtorEq, Nat.reduceAdd, Nat.reduceSub, Nat.reduceLeDiff, Nat.reduceLT, Int.reduceLT, Int.reduceLE, Int.reduceEq, Int.reduceNeg, Nat.reduceMul, Int.reduceAdd, Int.reduceToNat, *]))
    | (with_reducible refine cond_split ?_ ?_)
    | (with_reducible refine guard_split ?_ ?_)
    | ((with_reducible refine drw_open 0 ?_); simp (maxSteps := 1000000) (disch := omega) only [push_cast, go_sem, Nat.reduceEqDiff, ↓reduceIte, reduceCtorEq, Nat.reduceAdd, Nat.reduceSub, Nat.reduceLeDiff, Nat.reduceLT, Int.reduceLT, Int.reduceLE, Int.reduceEq, Int.reduceNeg, Nat.reduceMul, Int.reduceAdd, Int.reduceToNat, *]; (with_reducible refine drw_id ?_))
    | ((with_reducible refine drw_open 1 ?_); simp (maxSteps := 1000000) (disch := omega) only [push_cast, go_sem, Nat.reduceEqDiff, ↓reduceIte, reduceCtorEq, Nat.reduceAdd, Nat.reduceSub, Nat.reduceLeDiff, Nat.reduceLT, Int.reduceLT, Int.reduceLE, Int.reduceEq, Int.reduceNeg, Nat.reduceMul, Int.reduceAdd, Int.reduceToNat, *]; (with_reducible refine drw_id ?_))
    | ((with_reducible refine drw_open 2 ?_); simp (maxSteps := 1000000) (disch := omega) only [push_cast, go_sem, Nat.reduceEqDiff, ↓reduceIte, reduceCtorEq, Nat.reduceAdd, Nat.reduceSub, Nat.reduceLeDiff, Nat.reduceLT, Int.reduceLT, Int.reduceLE, Int.reduceEq, Int.reduceNeg, Nat.reduceMul, Int.reduceAdd, Int.reduceToNat, *]; (with_reducible refine drw_id ?_))
    | ((with_reducible refine drw_intro ?_ ?_); (focus decide +kernel); (try simp (maxSteps := 1000000) (disch := omega) only [push_cast, go_sem, Nat.reduceEqDiff, ↓reduceIte, reduceCtorEq, Nat.reduceAdd, Nat.reduceSub, Nat.reduceLeDiff, Nat.reduceLT, Int.reduceLT, Int.reduceLE, Int.reduceEq, Int.reduceNeg, Nat.reduceMul, Int.reduceAdd, Int.reduceToNat, *]))
    | (with_reducible refine still_split ?_ ?_)
    | ((with_reducible refine call_by2 [] (last_spec _ _) (by first | (refine ⟨?_, ?_, ?_, ?_⟩ <;> ((try simp (maxSteps := 1000000) (disch := omega) only [push_cast, go_sem, Nat.reduceEqDiff, ↓reduceIte, reduceCtorEq, Nat.reduceAdd, Nat.reduceSub, Nat.reduceLeDiff, Nat.reduceLT, Int.reduceLT, Int.reduceLE, Int.reduceEq, Int.reduceNeg, Nat.reduceMul, Int.reduceAdd, Int.reduceToNat, *]); (try rfl); (try omega); done)) | fail) ?_) <;> (try simp (maxSteps := 1000000) (disch := omega) only [push_cast, go_sem, Nat.reduceEqDiff, ↓reduceIte, reduceCtorEq, Nat.reduceAdd, Nat.reduceSub, Nat.reduceLeDiff, Nat.reduceLT, Int.reduceLT, Int.reduceLE, Int.reduceEq, Int.reduceNeg, Nat.reduceMul, Int.reduceAdd, Int.reduceToNat, *]))
    | omega)
  refine loop_by (σ := Nat × List RecA) (fun x N => ([(13, .int .i64 x.1), (12, .int .i64 a.length), (11, .lst f 5 (a.map encA)), (6, .row 2 x.2.length 0 x.2.length), (5, .mp 1), (0, .int .i64 h), (1, .lst f 5 (a.map encA))], [(2, .row 5 (x.2.map encA) false), (1, .map ((lastM a a.length).map encK) ((lastM a a.length).map encI))]))
    (fun x => x.1 ≤ a.length ∧ x.2.length ≤ x.1 ∧ x.2 ++ cleanL h (a.drop x.1) = cleanL h a) (fun x => a.length - x.1) (0, []) _ (by simp) (by simp (maxSteps := 1000000) (disch := omega) only [push_cast, go_sem, Nat.reduceEqDiff, ↓reduceIte, reduceCtorEq, Nat.reduceAdd, Nat.reduceSub, Nat.reduceLeDiff, Nat.reduceLT, Int.reduceLT, Int.reduceLE, Int.reduceEq, Int.reduceNeg, Nat.reduceMul, Int.reduceAdd, Int.reduceToNat, *]) (by simp (maxSteps := 1000000) (disch := omega) only [push_cast, go_sem, Nat.reduceEqDiff, ↓reduceIte, reduceCtorEq, Nat.reduceAdd, Nat.reduceSub, Nat.reduceLeDiff, Nat.reduceLT, Int.reduceLT, Int.reduceLE, Int.reduceEq, Int.reduceNeg, Nat.reduceMul, Int.reduceAdd, Int.reduceToNat, *]) (Nat.le_refl _) ?_
  rintro ⟨i, acc⟩ N hN ⟨hi, hacc, hinv⟩
  dsimp only at *
  by_cases hlt : i < a.length
  · obtain ⟨j, hj, hji⟩ := last_get a.length (Nat.le_refl _) i a[i] hlt (by simp)
    rw [List.take_length] at hji
    have hdrop : a.drop i = a[i] :: a.drop (i + 1) := List.drop_eq_getElem_cons hlt
    rw [hdrop, cleanL_cons] at hinv
    simp (maxSteps := 1000000) (disch := omega) only [push_cast, go_sem, Nat.reduceEqDiff, ↓reduceIte, reduceCtorEq, Nat.reduceAdd, Nat.reduceSub, Nat.reduceLeDiff, Nat.reduceLT, Int.reduceLT, Int.reduceLE, Int.reduceEq, Int.reduceNeg, Nat.reduceMul, Int.reduceAdd, Int.reduceToNat, *]
    repeat' (first
    | with_reducible refine And.intro ?_ ?_
    | (with_reducible intro hx; (try simp only [false_dec, true_dec, Int.ofNat_inj, gt_iff_lt, ge_iff_le, decide_eq_true_eq, decide_eq_false_iff_not, Bool.not_eq_true', Bool.not_eq_false', Bool.and_eq_true, Bool.or_eq_false_iff, ne_eq, Classical.not_not] at hx); (first | (exfalso; omega) | (try simp (maxSteps := 1000000) (disch := omega) only [push_cast, go_sem, Nat.reduceEqDiff, ↓reduceIte, reduceCtorEq, Nat.reduceAdd, Nat.reduceSub, Nat.reduceLeDiff, Nat.reduceLT, Int.reduceLT, Int.reduceLE, Int.reduceEq, Int.reduceNeg, Nat.reduceMul, Int.reduceAdd, Int.reduceToNat, *])))
    | (with_reducible refine branch_t ?_; (try simp (maxSteps := 1000000) (disch := omega) only [push_cast, go_sem, Nat.reduceEqDiff, ↓reduceIte, reduceCtorEq, Nat.reduceAdd, Nat.reduceSub, Nat.reduceLeDiff, Nat.reduceLT, Int.reduceLT, Int.reduceLE, Int.reduceEq, Int.reduceNeg, Nat.reduceMul, Int.reduceAdd, Int.reduceToNat, *]))
    | (with_reducible refine branch_f ?_; (try simp (maxSteps := 1000000) (disch := omega) only [push_cast, go_sem, Nat.reduceEqDiff, ↓reduceIte, reduceCtorEq, Nat.reduceAdd, Nat.reduceSub, Nat.reduceLeDiff, Nat.reduceLT, Int.reduceLT, Int.reduceLE, Int.reduceEq, Int.reduceNeg, Nat.reduceMul, Int.reduceAdd, Int.reduceToNat, *]))
    | (with_reducible refine cond_split ?_ ?_)
    | (with_reducible refine guard_split ?_ ?_)
    | ((with_reducible refine drw_open 0 ?_); simp (maxSteps := 1000000) (disch := omega) only [push_cast, go_sem, Nat.reduceEqDiff, ↓reduceIte, reduceCtorEq, Nat.reduceAdd, Nat.reduceSub, Nat.reduceLeDiff, Nat.reduceLT, Int.reduceLT, Int.reduceLE, Int.reduceEq, Int.reduceNeg, Nat.reduceMul, Int.reduceAdd, Int.reduceToNat, *]; (with_reducible refine drw_id ?_))
    | ((with_reducible refine drw_open 1 ?_); simp (maxSteps := 1000000) (disch := omega) only [push_cast, go_sem, Nat.reduceEqDiff, ↓reduceIte, reduceCtorEq, Nat.reduceAdd, Nat.reduceSub, Nat.reduceLeDiff, Nat.reduceLT, Int.reduceLT, Int.reduceLE, Int.reduceEq, Int.reduceNeg, Nat.reduceMul, Int.reduceAdd, Int.reduceToNat, *]; (with_reducible refine drw_id ?_))
    | ((with_reducible refine drw_open 2 ?_); simp (maxSteps := 1000000) (disch := omega) only [push_cast, go_sem, Nat.reduceEqDiff, ↓reduceIte, reduceCtorEq, Nat.reduceAdd, Nat.reduceSub, Nat.reduceLeDiff, Nat.reduceLT, Int.reduceLT, Int.reduceLE, Int.reduceEq, Int.reduceNeg, Nat.reduceMul, Int.reduceAdd, Int.reduceToNat, *]; (with_reducible refine drw_id ?_))
    | ((with_reducible refine drw_intro ?_ ?_); (focus decide +kernel); (try simp (maxSteps := 1000000) (disch := omega) only [push_cast, go_sem, Nat.reduceEqDiff, ↓reduceIte, reduceCtorEq, Nat.reduceAdd, Nat.reduceSub, Nat.reduceLeDiff, Nat.reduceLT, Int.reduceLT, Int.reduceLE, Int.reduceEq, Int.reduceNeg, Nat.reduceMul, Int.reduceAdd, Int.reduceToNat, *]))
    | (with_reducible refine still_split ?_ ?_)
    | omega)
    · rename_i h1 h2
      rw [h1, h2] at hinv
      refine loop_end (i + 1, acc) _ (by omega) ⟨by omega, by dsimp only; omega, ?_⟩ (by omega) (by simp (maxSteps := 1000000) (disch := omega) only [push_cast, go_sem, Nat.reduceEqDiff, ↓reduceIte, reduceCtorEq, Nat.reduceAdd, Nat.reduceSub, Nat.reduceLeDiff, Nat.reduceLT, Int.reduceLT, Int.reduceLE, Int.reduceEq, Int.reduceNeg, Nat.reduceMul, Int.reduceAdd, Int.reduceToNat, *]) (by simp (maxSteps := 1000000) (disch := omega) only [push_cast, go_sem, Nat.reduceEqDiff, ↓reduceIte, reduceCtorEq, Nat.reduceAdd, Nat.reduceSub, Nat.reduceLeDiff, Nat.reduceLT, Int.reduceLT, Int.reduceLE, Int.reduceEq, Int.reduceNeg, Nat.reduceMul, Int.reduceAdd, Int.reduceToNat, *]) (Nat.le_refl _)
      rw [← hinv]; simp [hx]
    · rename_i h1 h2
      rw [h1, h2] at hinv
      refine loop_end (i + 1, acc ++ [a[i]]) _ (by omega) ⟨by omega, by simp; omega, ?_⟩ (by omega) ?_ ?_ (Nat.le_refl _)
      · rw [← hinv]; simp [hx]
      · simp (maxSteps := 1000000) (disch := omega) only [push_cast, go_sem, Nat.reduceEqDiff, ↓reduceIte, reduceCtorEq, Nat.reduceAdd, Nat.reduceSub, Nat.reduceLeDiff, Nat.reduceLT, Int.reduceLT, Int.reduceLE, Int.reduceEq, Int.reduceNeg, Nat.reduceMul, Int.reduceAdd, Int.reduceToNat, *] <;> simp
      · simp (maxSteps := 1000000) (disch := omega) only [push_cast, go_sem, Nat.reduceEqDiff, ↓reduceIte, reduceCtorEq, Nat.reduceAdd, Nat.reduceSub, Nat.reduceLeDiff, Nat.reduceLT, Int.reduceLT, Int.reduceLE, Int.reduceEq, Int.reduceNeg, Nat.reduceMul, Int.reduceAdd, Int.reduceToNat, *] <;> simp [encA, h2]
    · rename_i h1
      rw [h1, hx] at hinv
      refine loop_end (i + 1, acc ++ [a[i]]) _ (by omega) ⟨by omega, by simp; omega, ?_⟩ (by omega) ?_ ?_ (Nat.le_refl _)
      · rw [← hinv]; simp
      · simp (maxSteps := 1000000) (disch := omega) only [push_cast, go_sem, Nat.reduceEqDiff, ↓reduceIte, reduceCtorEq, Nat.reduceAdd, Nat.reduceSub, Nat.reduceLeDiff, Nat.reduceLT, Int.reduceLT, Int.reduceLE, Int.reduceEq, Int.reduceNeg, Nat.reduceMul, Int.reduceAdd, Int.reduceToNat, *] <;> simp
      · simp (maxSteps := 1000000) (disch := omega) only [push_cast, go_sem, Nat.reduceEqDiff, ↓reduceIte, reduceCtorEq, Nat.reduceAdd, Nat.reduceSub, Nat.reduceLeDiff, Nat.reduceLT, Int.reduceLT, Int.reduceLE, Int.reduceEq, Int.reduceNeg, Nat.reduceMul, Int.reduceAdd, Int.reduceToNat, *] <;> simp [encA, hx]
    · have : ((a.drop (i + 1)).all fun x => !decide (x.key = a[i].key)) = false := by rw [Bool.eq_false_iff]; exact hx
      rw [this] at hinv
      refine loop_end (i + 1, acc) _ (by omega) ⟨by omega, by dsimp only; omega, ?_⟩ (by omega) (by simp (maxSteps := 1000000) (disch := omega) only [push_cast, go_sem, Nat.reduceEqDiff, ↓reduceIte, reduceCtorEq, Nat.reduceAdd, Nat.reduceSub, Nat.reduceLeDiff, Nat.reduceLT, Int.reduceLT, Int.reduceLE, Int.reduceEq, Int.reduceNeg, Nat.reduceMul, Int.reduceAdd, Int.reduceToNat, *]) (by simp (maxSteps := 1000000) (disch := omega) only [push_cast, go_sem, Nat.reduceEqDiff, ↓reduceIte, reduceCtorEq, Nat.reduceAdd, Nat.reduceSub, Nat.reduceLeDiff, Nat.reduceLT, Int.reduceLT, Int.reduceLE, Int.reduceEq, Int.reduceNeg, Nat.reduceMul, Int.reduceAdd, Int.reduceToNat, *]) (Nat.le_refl _)
      rw [← hinv]; simp
  · simp (maxSteps := 1000000) (disch := omega) only [push_cast, go_sem, Nat.reduceEqDiff, ↓reduceIte, reduceCtorEq, Nat.reduceAdd, Nat.reduceSub, Nat.reduceLeDiff, Nat.reduceLT, Int.reduceLT, Int.reduceLE, Int.reduceEq, Int.reduceNeg, Nat.reduceMul, Int.reduceAdd, Int.reduceToNat, *]
    repeat' (first
    | with_reducible refine And.intro ?_ ?_
    | (with_reducible intro hx; (try simp only [false_dec, true_dec, Int.ofNat_inj, gt_iff_lt, ge_iff_le, decide_eq_true_eq, decide_eq_false_iff_not, Bool.not_eq_true', Bool.not_eq_false', Bool.and_eq_true, Bool.or_eq_false_iff, ne_eq, Classical.not_not] at hx); (first | (exfalso; omega) | (try simp (maxSteps := 1000000) (disch := omega) only [push_cast, go_sem, Nat.reduceEqDiff, ↓reduceIte, reduceCtorEq, Nat.reduceAdd, Nat.reduceSub, Nat.reduceLeDiff, Nat.reduceLT, Int.reduceLT, Int.reduceLE, Int.reduceEq, Int.reduceNeg, Nat.reduceMul, Int.reduceAdd, Int.reduceToNat, *])))
    | (with_reducible refine branch_t ?_; (try simp (maxSteps := 1000000) (disch := omega) only [push_cast, go_sem, Nat.reduceEqDiff, ↓reduceIte, reduceCtorEq, Nat.reduceAdd, Nat.reduceSub, Nat.reduceLeDiff, Nat.reduceLT, Int.reduceLT, Int.reduceLE, Int.reduceEq, Int.reduceNeg, Nat.reduceMul, Int.reduceAdd, Int.reduceToNat, *]))
    | (with_reducible refine branch_f ?_; (try simp (maxSteps := 1000000) (disch := omega) only [push_cast, go_sem, Nat.reduceEqDiff, ↓reduceIte, reduceCtorEq, Nat.reduceAdd, Nat.reduceSub, Nat.reduceLeDiff, Nat.reduceLT, Int.reduceLT, Int.reduceLE, Int.reduceEq, Int.reduceNeg, Nat.reduceMul, Int.reduceAdd, Int.reduceToNat, *]))
    | (with_reducible refine cond_split ?_ ?_)
    | (with_reducible refine guard_split ?_ ?_)
    | ((with_reducible refine drw_open 0 ?_); simp (maxSteps := 1000000) (disch := omega) only [push_cast, go_sem, Nat.reduceEqDiff, ↓reduceIte, reduceCtorEq, Nat.reduceAdd, Nat.reduceSub, Nat.reduceLeDiff, Nat.reduceLT, Int.reduceLT, Int.reduceLE, Int.reduceEq, Int.reduceNeg, Nat.reduceMul, Int.reduceAdd, Int.reduceToNat, *]; (with_reducible refine drw_id ?_))
    | ((with_reducible refine drw_open 1 ?_); simp (maxSteps := 1000000) (disch := omega) only [push_cast, go_sem, Nat.reduceEqDiff, ↓reduceIte, reduceCtorEq, Nat.reduceAdd, Nat.reduceSub, Nat.reduceLeDiff, Nat.reduceLT, Int.reduceLT, Int.reduceLE, Int.reduceEq, Int.reduceNeg, Nat.reduceMul, Int.reduceAdd, Int.reduceToNat, *]; (with_reducible refine drw_id ?_))
    | ((with_reducible refine drw_open 2 ?_); simp (maxSteps := 1000000) (disch := omega) only [push_cast, go_sem, Nat.reduceEqDiff, ↓reduceIte, reduceCtorEq, Nat.reduceAdd, Nat.reduceSub, Nat.reduceLeDiff, Nat.reduceLT, Int.reduceLT, Int.reduceLE, Int.reduceEq, Int.reduceNeg, Nat.reduceMul, Int.reduceAdd, Int.reduceToNat, *]; (with_reducible refine drw_id ?_))
    | ((with_reducible refine drw_intro ?_ ?_); (focus decide +kernel); (try simp (maxSteps := 1000000) (disch := omega) only [push_cast, go_sem, Nat.reduceEqDiff, ↓reduceIte, reduceCtorEq, Nat.reduceAdd, Nat.reduceSub, Nat.reduceLeDiff, Nat.reduceLT, Int.reduceLT, Int.reduceLE, Int.reduceEq, Int.reduceNeg, Nat.reduceMul, Int.reduceAdd, Int.reduceToNat, *]))
    | (with_reducible refine still_split ?_ ?_)
    | omega)
    have : i = a.length := by omega
    subst this
    simp [cleanL] at hinv
    rw [hinv]
theorem spare_spec (f : Bool) (h : Int) (a : List RecA) (ha : a.length ≤ 1000) : Spec Try.prog 14 [.int .i64 h, .lst f 5 (a.map encA)] (.int .i64 (a.length - (cleanL h a).length)) [.int .i64 h, .lst f 5 (a.map encA)] := by
  refine spec_run (P := Try.prog) (f := 14) (fn := Try.f14) (by kernel_rfl) (by kernel_rfl) rfl (by simp [Try.f14]) ?_; simp (maxSteps := 1000000) (disch := omega) only [push_cast, go_sem, Nat.reduceEqDiff, ↓reduceIte, reduceCtorEq, Nat.reduceAdd, Nat.reduceSub, Nat.reduceLeDiff, Nat.reduceLT, Int.reduceLT, Int.reduceLE, Int.reduceEq, Int.reduceNeg, Nat.reduceMul, Int.reduceAdd, Int.reduceToNat, Try.f14, *]
  repeat' (first
    | with_reducible refine And.intro ?_ ?_
    | (with_reducible intro hx; (try simp only [false_dec, true_dec, Int.ofNat_inj, gt_iff_lt, ge_iff_le, decide_eq_true_eq, decide_eq_false_iff_not, Bool.not_eq_true', Bool.not_eq_false', Bool.and_eq_true, Bool.or_eq_false_iff, ne_eq, Classical.not_not] at hx); (first | (exfalso; omega) | (try simp (maxSteps := 1000000) (disch := omega) only [push_cast, go_sem, Nat.reduceEqDiff, ↓reduceIte, reduceCtorEq, Nat.reduceAdd, Nat.reduceSub, Nat.reduceLeDiff, Nat.reduceLT, Int.reduceLT, Int.reduceLE, Int.reduceEq, Int.reduceNeg, Nat.reduceMul, Int.reduceAdd, Int.reduceToNat, *])))
    | (with_reducible refine branch_t ?_; (try simp (maxSteps := 1000000) (disch := omega) only [push_cast, go_sem, Nat.reduceEqDiff, ↓reduceIte, reduceCtorEq, Nat.reduceAdd, Nat.reduceSub, Nat.reduceLeDiff, Nat.reduceLT, Int.reduceLT, Int.reduceLE, Int.reduceEq, Int.reduceNeg, Nat.reduceMul, Int.reduceAdd, Int.reduceToNat, *]))
    | (with_reducible refine branch_f ?_; (try simp (maxSteps := 1000000) (disch := omega) only [push_cast, go_sem, Nat.reduceEqDiff, ↓reduceIte, reduceCtorEq, Nat.reduceAdd, Nat.reduceSub, Nat.reduceLeDiff, Nat.reduceLT, Int.reduceLT, Int.reduceLE, Int.reduceEq, Int.reduceNeg, Nat.reduceMul, Int.reduceAdd, Int.reduceToNat, *]))
    | (with_reducible refine cond_split ?_ ?_)
    | (with_reducible refine guard_split ?_ ?_)
    | ((with_reducible refine drw_open 0 ?_); simp (maxSteps := 1000000) (disch := omega) only [push_cast, go_sem, Nat.reduceEqDiff, ↓reduceIte, reduceCtorEq, Nat.reduceAdd, Nat.reduceSub, Nat.reduceLeDiff, Nat.reduceLT, Int.reduceLT, Int.reduceLE, Int.reduceEq, Int.reduceNeg, Nat.reduceMul, Int.reduceAdd, Int.reduceToNat, *]; (with_reducible refine drw_id ?_))
    | ((with_reducible refine drw_open 1 ?_); simp (maxSteps := 1000000) (disch := omega) only [push_cast, go_sem, Nat.reduceEqDiff, ↓reduceIte, reduceCtorEq, Nat.reduceAdd, Nat.reduceSub, Nat.reduceLeDiff, Nat.reduceLT, Int.reduceLT, Int.reduceLE, Int.reduceEq, Int.reduceNeg, Nat.reduceMul, Int.reduceAdd, Int.reduceToNat, *]; (with_reducible refine drw_id ?_))
    | ((with_reducible refine drw_open 2 ?_); simp (maxSteps := 1000000) (disch := omega) only [push_cast, go_sem, Nat.reduceEqDiff, ↓reduceIte, reduceCtorEq, Nat.reduceAdd, Nat.reduceSub, Nat.reduceLeDiff, Nat.reduceLT, Int.reduceLT, Int.reduceLE, Int.reduceEq, Int.reduceNeg, Nat.reduceMul, Int.reduceAdd, Int.reduceToNat, *]; (with_reducible refine drw_id ?_))
    | ((with_reducible refine drw_intro ?_ ?_); (focus decide +kernel); (try simp (maxSteps := 1000000) (disch := omega) only [push_cast, go_sem, Nat.reduceEqDiff, ↓reduceIte, reduceCtorEq, Nat.reduceAdd, Nat.reduceSub, Nat.reduceLeDiff, Nat.reduceLT, Int.reduceLT, Int.reduceLE, Int.reduceEq, Int.reduceNeg, Nat.reduceMul, Int.reduceAdd, Int.reduceToNat, *]))
    | (with_reducible refine still_split ?_ ?_)
    | ((with_reducible refine call_by2 [] (clean_spec _ _ _ ha) (by first | (refine ⟨?_, ?_, ?_, ?_⟩ <;> ((try simp (maxSteps := 1000000) (disch := omega) only [push_cast, go_sem, Nat.reduceEqDiff, ↓reduceIte, reduceCtorEq, Nat.reduceAdd, Nat.reduceSub, Nat.reduceLeDiff, Nat.reduceLT, Int.reduceLT, Int.reduceLE, Int.reduceEq, Int.reduceNeg, Nat.reduceMul, Int.reduceAdd, Int.reduceToNat, *]); (try rfl); (try omega); done)) | fail) ?_) <;> (try simp (maxSteps := 1000000) (disch := omega) only [push_cast, go_sem, Nat.reduceEqDiff, ↓reduceIte, reduceCtorEq, Nat.reduceAdd, Nat.reduceSub, Nat.reduceLeDiff, Nat.reduceLT, Int.reduceLT, Int.reduceLE, Int.reduceEq, Int.reduceNeg, Nat.reduceMul, Int.reduceAdd, Int.reduceToNat, *]))
    | omega)
end Go.Ev

set_option linter.unusedVariables false
set_option linter.unusedSimpArgs false
namespace Go.Ev
set_option maxRecDepth 100000
set_option maxHeartbeats 0
open Go.Proofs
def stepAt (at_ : Int) (o : One) : Int := if o.raw = true then o.step else IntKind.i64.wrap (at_ + if o.step.tmod 4 < 0 then IntKind.i64.wrap (0 - o.step.tmod 4) else o.step.tmod 4)
def nextAt (a : Int) : Int := if a < 4611686018427387904 then IntKind.i64.wrap (a + 1) else a
theorem trunc_eq {l : List UInt8} : (if (1100 : Int) < (l.length : Int) then l.take 1100 else l) = l.take 1100 := by
  split
  · rfl
  · rw [List.take_of_length_le (by omega)]
def oneR (a : Int) (o : One) : RecA := ⟨a, o.key.take 1100, o.val.take 1100, o.gone, o.time⟩
def laidGo (at_ : Int) : List One → List RecA
  | [] => []
  | o :: l => oneR (stepAt at_ o) o :: laidGo (nextAt (stepAt at_ o)) l
def laidF (from_ most : Int) (l : List One) : List RecA := laidGo from_ (l.take most.toNat)
theorem laid_spec (l : List One) (from_ most : Int) (hm : most ≤ 1000) : Spec Try.prog 10 [.lst false 6 (l.map encO), .int .i64 from_, .int .i64 most] (.tup [.olst 5 ((laidF from_ most l).map encA), .olst 5 ((laidF from_ most l).map encA)]) [.lst false 6 (l.map encO), .int .i64 from_, .int .i64 most] := by
  refine spec_run (P := Try.prog) (f := 10) (fn := Try.f10) (by kernel_rfl) (by kernel_rfl) rfl (by simp [Try.f10]) ?_; simp (maxSteps := 1000000) (disch := omega) only [push_cast, go_sem, Nat.reduceEqDiff, ↓reduceIte, reduceCtorEq, Nat.reduceAdd, Nat.reduceSub, Nat.reduceLeDiff, Nat.reduceLT, Int.reduceLT, Int.reduceLE, Int.reduceEq, Int.reduceNeg, Nat.reduceMul, Int.reduceAdd, Int.reduceToNat, Try.f10, *]
  repeat' (first
    | with_reducible refine And.intro ?_ ?_
    | (with_reducible intro hx; (try simp only [false_dec, true_dec, Int.ofNat_inj, gt_iff_lt, ge_iff_le, decide_eq_true_eq, decide_eq_false_iff_not, Bool.not_eq_true', Bool.not_eq_false', Bool.and_eq_true, Bool.or_eq_false_iff, ne_eq, Classical.not_not] at hx); (first | (exfalso; omega) | (try simp (maxSteps := 1000000) (disch := omega) only [push_cast, go_sem, Nat.reduceEqDiff, ↓reduceIte, reduceCtorEq, Nat.reduceAdd, Nat.reduceSub, Nat.reduceLeDiff, Nat.reduceLT, Int.reduceLT, Int.reduceLE, Int.reduceEq, Int.reduceNeg, Nat.reduceMul, Int.reduceAdd, Int.reduceToNat, *])))
    | (with_reducible refine branch_t ?_; (try simp (maxSteps := 1000000) (disch := omega) only [push_cast, go_sem, Nat.reduceEqDiff, ↓reduceIte, reduceCtorEq, Nat.reduceAdd, Nat.reduceSub, Nat.reduceLeDiff, Nat.reduceLT, Int.reduceLT, Int.reduceLE, Int.reduceEq, Int.reduceNeg, Nat.reduceMul, Int.reduceAdd, Int.reduceToNat, *]))
    | (with_reducible refine branch_f ?_; (try simp (maxSteps := 1000000) (disch := omega) only [push_cast, go_sem, Nat.reduceEqDiff, ↓reduceIte, reduceCtorEq, Nat.reduceAdd, Nat.reduceSub, Nat.reduceLeDiff, Nat.reduceLT, Int.reduceLT, Int.reduceLE, Int.reduceEq, Int.reduceNeg, Nat.reduceMul, Int.reduceAdd, Int.reduceToNat, *]))
    | (with_reducible refine cond_split ?_ ?_)
    | (with_reducible refine guard_split ?_ ?_)
    | ((with_reducible refine drw_open 0 ?_); simp (maxSteps := 1000000) (disch := omega) only [push_cast, go_sem, Nat.reduceEqDiff, ↓reduceIte, reduceCtorEq, Nat.reduceAdd, Nat.reduceSub, Nat.reduceLeDiff, Nat.reduceLT, Int.reduceLT, Int.reduceLE, Int.reduceEq, Int.reduceNeg, Nat.reduceMul, Int.reduceAdd, Int.reduceToNat, *]; (with_reducible refine drw_id ?_))
    | ((with_reducible refine drw_open 1 ?_); simp (maxSteps := 1000000) (disch := omega) only [push_cast, go_sem, Nat.reduceEqDiff, ↓reduceIte, reduceCtorEq, Nat.reduceAdd, Nat.reduceSub, Nat.reduceLeDiff, Nat.reduceLT, Int.reduceLT, Int.reduceLE, Int.reduceEq, Int.reduceNeg, Nat.reduceMul, Int.reduceAdd, Int.reduceToNat, *]; (with_reducible refine drw_id ?_))
    | ((with_reducible refine drw_open 2 ?_); simp (maxSteps := 1000000) (disch := omega) only [push_cast, go_sem, Nat.reduceEqDiff, ↓reduceIte, reduceCtorEq, Nat.reduceAdd, Nat.reduceSub, Nat.reduceLeDiff, Nat.reduceLT, Int.reduceLT, Int.reduceLE, Int.reduceEq, Int.reduceNeg, Nat.reduceMul, Int.reduceAdd, Int.reduceToNat, *]; (with_reducible refine drw_id ?_))
    | ((with_reducible refine drw_intro ?_ ?_); (focus decide +kernel); (try simp (maxSteps := 1000000) (disch := omega) only [push_cast, go_sem, Nat.reduceEqDiff, ↓reduceIte, reduceCtorEq, Nat.reduceAdd, Nat.reduceSub, Nat.reduceLeDiff, Nat.reduceLT, Int.reduceLT, Int.reduceLE, Int.reduceEq, Int.reduceNeg, Nat.reduceMul, Int.reduceAdd, Int.reduceToNat, *]))
    | (with_reducible refine still_split ?_ ?_)
    | omega)
  refine loop_by (σ := Int × List RecA) (fun x N => ([(18, .int .i64 x.2.length), (17, .int .i64 l.length), (16, .lst false 6 (l.map encO)), (10, .int .i64 x.1), (9, .row 3 x.2.length 0 x.2.length), (8, .row 2 x.2.length 0 x.2.length), (0, .lst false 6 (l.map encO)), (1, .int .i64 from_), (2, .int .i64 most)], [(3, .row 5 (x.2.map encA) false), (2, .row 5 (x.2.map encA) false)]))
    (fun x => x.2.length ≤ l.length ∧ x.2 ++ laidGo x.1 ((l.take most.toNat).drop x.2.length) = laidF from_ most l) (fun x => l.length - x.2.length) (from_, []) _ (by simp [laidF]) (by simp (maxSteps := 1000000) (disch := omega) only [push_cast, go_sem, Nat.reduceEqDiff, ↓reduceIte, reduceCtorEq, Nat.reduceAdd, Nat.reduceSub, Nat.reduceLeDiff, Nat.reduceLT, Int.reduceLT, Int.reduceLE, Int.reduceEq, Int.reduceNeg, Nat.reduceMul, Int.reduceAdd, Int.reduceToNat, *]) (by simp (maxSteps := 1000000) (disch := omega) only [push_cast, go_sem, Nat.reduceEqDiff, ↓reduceIte, reduceCtorEq, Nat.reduceAdd, Nat.reduceSub, Nat.reduceLeDiff, Nat.reduceLT, Int.reduceLT, Int.reduceLE, Int.reduceEq, Int.reduceNeg, Nat.reduceMul, Int.reduceAdd, Int.reduceToNat, *]) (Nat.le_refl _) ?_
  rintro ⟨at_, acc⟩ N hN ⟨hi, hinv⟩
  dsimp only at *
  simp (maxSteps := 1000000) (disch := omega) only [push_cast, go_sem, Nat.reduceEqDiff, ↓reduceIte, reduceCtorEq, Nat.reduceAdd, Nat.reduceSub, Nat.reduceLeDiff, Nat.reduceLT, Int.reduceLT, Int.reduceLE, Int.reduceEq, Int.reduceNeg, Nat.reduceMul, Int.reduceAdd, Int.reduceToNat, *]
  repeat' (first
    | with_reducible refine And.intro ?_ ?_
    | (with_reducible intro hx; (try simp only [false_dec, true_dec, Int.ofNat_inj, gt_iff_lt, ge_iff_le, decide_eq_true_eq, decide_eq_false_iff_not, Bool.not_eq_true', Bool.not_eq_false', Bool.and_eq_true, Bool.or_eq_false_iff, ne_eq, Classical.not_not] at hx); (first | (exfalso; omega) | (try simp (maxSteps := 1000000) (disch := omega) only [push_cast, go_sem, Nat.reduceEqDiff, ↓reduceIte, reduceCtorEq, Nat.reduceAdd, Nat.reduceSub, Nat.reduceLeDiff, Nat.reduceLT, Int.reduceLT, Int.reduceLE, Int.reduceEq, Int.reduceNeg, Nat.reduceMul, Int.reduceAdd, Int.reduceToNat, *])))
    | (with_reducible refine branch_t ?_; (try simp (maxSteps := 1000000) (disch := omega) only [push_cast, go_sem, Nat.reduceEqDiff, ↓reduceIte, reduceCtorEq, Nat.reduceAdd, Nat.reduceSub, Nat.reduceLeDiff, Nat.reduceLT, Int.reduceLT, Int.reduceLE, Int.reduceEq, Int.reduceNeg, Nat.reduceMul, Int.reduceAdd, Int.reduceToNat, *]))
    | (with_reducible refine branch_f ?_; (try simp (maxSteps := 1000000) (disch := omega) only [push_cast, go_sem, Nat.reduceEqDiff, ↓reduceIte, reduceCtorEq, Nat.reduceAdd, Nat.reduceSub, Nat.reduceLeDiff, Nat.reduceLT, Int.reduceLT, Int.reduceLE, Int.reduceEq, Int.reduceNeg, Nat.reduceMul, Int.reduceAdd, Int.reduceToNat, *]))
    | ((with_reducible apply cond_merge); (focus (intro hx; (try simp only [false_dec, true_dec, Int.ofNat_inj, gt_iff_lt, ge_iff_le, decide_eq_true_eq, decide_eq_false_iff_not, Bool.not_eq_true', Bool.not_eq_false', Bool.and_eq_true, Bool.or_eq_false_iff, ne_eq, Classical.not_not] at hx); simp (maxSteps := 1000000) (disch := omega) only [push_cast, go_sem, Nat.reduceEqDiff, ↓reduceIte, reduceCtorEq, Nat.reduceAdd, Nat.reduceSub, Nat.reduceLeDiff, Nat.reduceLT, Int.reduceLT, Int.reduceLE, Int.reduceEq, Int.reduceNeg, Nat.reduceMul, Int.reduceAdd, Int.reduceToNat]; (repeat' (first | with_reducible exact rfl | with_reducible refine And.intro ?_ ?_ | (with_reducible intro hx; (try simp (maxSteps := 1000000) (disch := omega) only [push_cast, go_sem, Nat.reduceEqDiff, ↓reduceIte, reduceCtorEq, Nat.reduceAdd, Nat.reduceSub, Nat.reduceLeDiff, Nat.reduceLT, Int.reduceLT, Int.reduceLE, Int.reduceEq, Int.reduceNeg, Nat.reduceMul, Int.reduceAdd, Int.reduceToNat])) | omega)); done)); (focus (intro hx; (try simp only [false_dec, true_dec, Int.ofNat_inj, gt_iff_lt, ge_iff_le, decide_eq_true_eq, decide_eq_false_iff_not, Bool.not_eq_true', Bool.not_eq_false', Bool.and_eq_true, Bool.or_eq_false_iff, ne_eq, Classical.not_not] at hx); simp (maxSteps := 1000000) (disch := omega) only [push_cast, go_sem, Nat.reduceEqDiff, ↓reduceIte, reduceCtorEq, Nat.reduceAdd, Nat.reduceSub, Nat.reduceLeDiff, Nat.reduceLT, Int.reduceLT, Int.reduceLE, Int.reduceEq, Int.reduceNeg, Nat.reduceMul, Int.reduceAdd, Int.reduceToNat]; (repeat' (first | with_reducible exact rfl | with_reducible refine And.intro ?_ ?_ | (with_reducible intro hx; (try simp (maxSteps := 1000000) (disch := omega) only [push_cast, go_sem, Nat.reduceEqDiff, ↓reduceIte, reduceCtorEq, Nat.reduceAdd, Nat.reduceSub, Nat.reduceLeDiff, Nat.reduceLT, Int.reduceLT, Int.reduceLE, Int.reduceEq, Int.reduceNeg, Nat.reduceMul, Int.reduceAdd, Int.reduceToNat])) | omega)); done)); (focus (simp only [wrs, wr, wrO, toList_lit, List.cons_append, List.nil_append, List.append_nil] <;> rfl)); (focus (repeat' (first | with_reducible exact strip_refl | (with_reducible refine strip_cons ?_ ?_) | rfl))); (focus (repeat' (first | with_reducible exact strip_refl | (with_reducible refine strip_cons ?_ ?_) | rfl))); (focus (simp (maxSteps := 1000000) (disch := omega) only [push_cast, go_sem, Nat.reduceEqDiff, ↓reduceIte, reduceCtorEq, Nat.reduceAdd, Nat.reduceSub, Nat.reduceLeDiff, Nat.reduceLT, Int.reduceLT, Int.reduceLE, Int.reduceEq, Int.reduceNeg, Nat.reduceMul, Int.reduceAdd, Int.reduceToNat, *] <;> omega)); (try simp (maxSteps := 1000000) (disch := omega) only [push_cast, go_sem, Nat.reduceEqDiff, ↓reduceIte, reduceCtorEq, Nat.reduceAdd, Nat.reduceSub, Nat.reduceLeDiff, Nat.reduceLT, Int.reduceLT, Int.reduceLE, Int.reduceEq, Int.reduceNeg, Nat.reduceMul, Int.reduceAdd, Int.reduceToNat, *]))
    | (with_reducible refine cond_split ?_ ?_)
    | (with_reducible refine guard_split ?_ ?_)
    | ((with_reducible refine drw_open 0 ?_); simp (maxSteps := 1000000) (disch := omega) only [push_cast, go_sem, Nat.reduceEqDiff, ↓reduceIte, reduceCtorEq, Nat.reduceAdd, Nat.reduceSub, Nat.reduceLeDiff, Nat.reduceLT, Int.reduceLT, Int.reduceLE, Int.reduceEq, Int.reduceNeg, Nat.reduceMul, Int.reduceAdd, Int.reduceToNat, *]; (with_reducible refine drw_id ?_))
    | ((with_reducible refine drw_open 1 ?_); simp (maxSteps := 1000000) (disch := omega) only [push_cast, go_sem, Nat.reduceEqDiff, ↓reduceIte, reduceCtorEq, Nat.reduceAdd, Nat.reduceSub, Nat.reduceLeDiff, Nat.reduceLT, Int.reduceLT, Int.reduceLE, Int.reduceEq, Int.reduceNeg, Nat.reduceMul, Int.reduceAdd, Int.reduceToNat, *]; (with_reducible refine drw_id ?_))
    | ((with_reducible refine drw_open 2 ?_); simp (maxSteps := 1000000) (disch := omega) only [push_cast, go_sem, Nat.reduceEqDiff, ↓reduceIte, reduceCtorEq, Nat.reduceAdd, Nat.reduceSub, Nat.reduceLeDiff, Nat.reduceLT, Int.reduceLT, Int.reduceLE, Int.reduceEq, Int.reduceNeg, Nat.reduceMul, Int.reduceAdd, Int.reduceToNat, *]; (with_reducible refine drw_id ?_))
    | ((with_reducible refine drw_intro ?_ ?_); (focus decide +kernel); (try simp (maxSteps := 1000000) (disch := omega) only [push_cast, go_sem, Nat.reduceEqDiff, ↓reduceIte, reduceCtorEq, Nat.reduceAdd, Nat.reduceSub, Nat.reduceLeDiff, Nat.reduceLT, Int.reduceLT, Int.reduceLE, Int.reduceEq, Int.reduceNeg, Nat.reduceMul, Int.reduceAdd, Int.reduceToNat, *]))
    | (with_reducible refine still_split ?_ ?_)
    | omega)
  · have : (l.take most.toNat).drop acc.length = [] := List.drop_eq_nil_of_le (by simp; omega)
    rw [this] at hinv
    simp [laidGo] at hinv
    rw [hinv]
  · have ht : (l.take most.toNat).drop acc.length = l[acc.length] :: (l.take most.toNat).drop (acc.length + 1) := by
      rw [List.drop_eq_getElem_cons (by simp; omega)]; simp
    refine loop_end (nextAt (stepAt at_ l[acc.length]), acc ++ [oneR (stepAt at_ l[acc.length]) l[acc.length]]) _ (by omega) ⟨by simp; omega, ?_⟩ (by simp; omega) ?_ ?_ (Nat.le_refl _)
    · rw [ht] at hinv
      rw [← hinv]
      simp [laidGo]
    · simp (maxSteps := 1000000) (disch := omega) only [push_cast, go_sem, Nat.reduceEqDiff, ↓reduceIte, reduceCtorEq, Nat.reduceAdd, Nat.reduceSub, Nat.reduceLeDiff, Nat.reduceLT, Int.reduceLT, Int.reduceLE, Int.reduceEq, Int.reduceNeg, Nat.reduceMul, Int.reduceAdd, Int.reduceToNat, *]
      first | exact ⟨by simp, rfl, by simp, by simp⟩ | rfl
    · simp (maxSteps := 1000000) (disch := omega) only [push_cast, go_sem, Nat.reduceEqDiff, ↓reduceIte, reduceCtorEq, Nat.reduceAdd, Nat.reduceSub, Nat.reduceLeDiff, Nat.reduceLT, Int.reduceLT, Int.reduceLE, Int.reduceEq, Int.reduceNeg, Nat.reduceMul, Int.reduceAdd, Int.reduceToNat, *]
      rw [trunc_eq, trunc_eq]
      simp [encA, oneR, stepAt]
  · have : (l.take most.toNat).drop acc.length = [] := List.drop_eq_nil_of_le (by simp; omega)
    rw [this] at hinv
    simp [laidGo] at hinv
    rw [hinv]
end Go.Ev

/-
slices.Insert of one element into a slice of structs of five cells: behind i what stood there goes one on, in place or in a new block.
-/
set_option linter.unusedVariables false
set_option linter.unusedSimpArgs false
namespace Go.Ins
open Go.Shelf Go.RowKit Go.Lib Go.Proofs
variable {P : Program}

theorem wp_copy_runI (w : World) {o : Oper} {a : Act} {K : Act → World → Prop} {Q : Exit → Act → World → Prop} (d s : Operand) (t t' : TypeId)
    (ho : o.op = .call { callee := .builtin .copy, args := #[d, s], argTypes := #[t, t'] }) (v u : Value) (hd : a.eval d = v) (hs : a.eval s = u) {v' : Value} {w' : World}
    (hr : (Builtin.copy_ #[t, t'] o.type #[v, u]).run P w = .ok v' w') (h : K (a.put o.dst v') w') : o.wp P a w K Q := by
  unfold Oper.wp execOp
  simp only [ho, resolve, invoke, builtin, Sem.run_bind, Sem.run_pure, Result.andThen_ok, List.map_toArray, List.map_cons, List.map_nil, hd, hs, hr]
  exact h
theorem wpList_copy_runI (w : World) {ops : Array Oper} {rest : List Oper} {o : Oper} {a : Act} {Q : Exit → Act → World → Prop} (hgd : o.guard = none) (d s : Operand) (t t' : TypeId)
    (ho : o.op = .call { callee := .builtin .copy, args := #[d, s], argTypes := #[t, t'] }) (v u : Value) (hd : a.eval d = v) (hs : a.eval s = u) {v' : Value} {w' : World}
    (hr : (Builtin.copy_ #[t, t'] o.type #[v, u]).run P w = .ok v' w') (h : wpList P ops Q rest (a.put o.dst v') w') : wpList P ops Q (o :: rest) a w :=
  wpList_plain hgd fun _ hK => wp_copy_runI w d s t t' ho v u hd hs hr (hK _ _ h)
theorem step_copy_runI {ops : Array Oper} {o : Oper} {a : Act} {w : World} {K : Act → World → Prop} {Q : Exit → Act → World → Prop} {E : Prop}
    (hg : o.guard = none) (d x : Operand) (dT sT : TypeId) (hop : o.op = Op.call { callee := Callee.builtin Builtin.copy, args := #[d, x], argTypes := #[dT, sT] })
    (v u : Value) (hd : a.eval d = v) (hx : a.eval x = u) {v' : Value} {w' : World} (hr : (Builtin.copy_ #[dT, sT] o.type #[v, u]).run P w = .ok v' w') (hK : K (a.put o.dst v') w') :
    if Region.wanted o (yielded ops a.tmps) = true then Oper.wp P o a w K Q else E := by
  have hw : Region.wanted o (yielded ops a.tmps) = true := by simp [Region.wanted, hg]
  rw [if_pos hw]
  unfold Oper.wp
  simp [execOp, hop, resolve, invoke, builtin, hd, hx, hr, Result.andThen]
  exact hK
theorem drew_setCells (b : Nat) : ∀ (vs : List Value) (o : Nat) (w : World), (w.setCells b o vs).drew = w.drew.setCells b o vs
  | [], _, _ => rfl
  | v :: r, o, w => by rw [World.setCells, World.setCells, drew_setCells b r]; rfl
theorem isSome_setCells (b : Nat) (vs : List Value) (o : Nat) (w : World) (h : ∀ j, j < vs.length → (w.cell? ⟨b, o + j, none⟩).isSome = true) (k : Nat) (hk : (w.cell? ⟨b, k, none⟩).isSome = true) : ((w.setCells b o vs).cell? ⟨b, k, none⟩).isSome = true := by
  by_cases hin : o ≤ k ∧ k < o + vs.length
  · have := World.cell?_setCells_in b vs o w h (k - o) (by omega)
    rw [show o + (k - o) = k by omega] at this
    rw [this]; rfl
  · rw [World.cell?_setCells_out b vs o w ⟨b, k, none⟩ (fun _ _ => by show k < o ∨ o + vs.length ≤ k; omega)]
    exact hk
/-- copy, of elements of some cells. -/
theorem run_copy_n (w : World) (dT sT ty elem : TypeId) (i : TypeInfo) (b o dLen dCap : Nat) (a : Addr) (sLen sCap : Nat) (cs : List Value)
    (hu : P.underlying dT = some (.slice elem)) (hi : P.info? elem = some i) (hn : cs.length = Nat.min sLen dLen * i.size)
    (hsrc : ∀ j v, cs[j]? = some v → w.cell? (a.add j) = some v) (hc : ∀ j, j < cs.length → (w.cell? ⟨b, o + j, none⟩).isSome = true) (hf : ∀ j, j < cs.length → w.frozen? ⟨b, o + j, none⟩ = false) (h1 : ∀ v ∈ cs, v.oneCell' = true) :
    (Builtin.copy_ #[dT, sT] ty #[.slice (some ⟨b, o, none⟩) dLen dCap, .slice (some a) sLen sCap]).run P w = .ok (goInt (Nat.min sLen dLen)) (w.setCells b o cs) := by
  have hl := run_loadCells_list (P := P) w a cs hsrc
  have hst := run_storeCells_cells (P := P) b o cs 0 w (by simpa using hc) (by simpa using hf) h1
  rw [hn] at hl
  simp [Builtin.copy_, run_underlying hu, Builtin.lenOf, Builtin.firstCells, sizeOf, typeInfo, hi, hl, hst]

theorem i36 : ∃ i, Try.prog.info? 36 = some i ∧ i.size = 5 ∧ i.bytes = 56 ∧ i.zero.isSome = true := by
  have h : ((Try.prog.info? 36).map fun i => (i.size, i.bytes, i.zero.isSome)) = some (5, 56, true) := by kernel_rfl
  obtain ⟨i, hi, h⟩ := Option.map_eq_some_iff.1 h
  simp only [Prod.mk.injEq] at h
  exact ⟨i, hi, h⟩
theorem s36 (w : World) : (sizeOf 36).run Try.prog w = .ok 5 w := by
  obtain ⟨i, hi, h, _⟩ := i36
  simp [sizeOf, typeInfo, hi, h]
set_option maxHeartbeats 4000000 in
set_option maxRecDepth 100000 in
/-- There is room, i < len(s): in place. -/
theorem insert_shift (b n c i vb voff vc : Nat) (cs vs : List Value) (w : World) (hi : i < n) (hroom : n + 1 ≤ c) (hbig : (n + 1) * 56 ≤ 140737488355328) (hvb : vb ≠ b)
    (hcl : cs.length = n * 5) (hvl : vs.length = 5)
    (hcs : ∀ j v, cs[j]? = some v → w.cell? ⟨b, j, none⟩ = some v) (hsp : ∀ j, j < (n + 1) * 5 → (w.cell? ⟨b, j, none⟩).isSome = true) (hfz : ∀ j, j < (n + 1) * 5 → w.frozen? ⟨b, j, none⟩ = false)
    (hvs : ∀ j v, vs[j]? = some v → w.cell? ⟨vb, voff + j, none⟩ = some v) (h1c : ∀ v ∈ cs, v.oneCell' = true) (h1v : ∀ v ∈ vs, v.oneCell' = true)
    (tA tB : TypeId) (kA kB : Nat) (hsa : w.shape? vb = some (tA, kA)) (hsb : w.shape? b = some (tB, kB)) (hkB : kB ≠ 0) (hfa : w.frozen? ⟨vb, voff, none⟩ = false) (hfe : w.frozen? ⟨vb, kA, none⟩ = false) :
    Calls Try.prog 58 #[.slice (some ⟨b, 0, none⟩) n c, .int .i64 i, .slice (some ⟨vb, voff, none⟩) 1 vc] w fun e w' =>
      e = .returned (.slice (some ⟨b, 0, none⟩) (n + 1) c) ∧ w' = (w.drew.setCells b ((i + 1) * 5) (cs.drop (i * 5))).setCells b (i * 5) vs := by
  have mixed : Try.prog.follows .mixedOrders = true := by kernel_rfl
  obtain ⟨i0, hi0, hz5, _, _⟩ := i36
  have z36 := s36
  have hz2 : ¬ ((i : Int) = (n : Int)) := by omega
  have hov : ∀ lb cb, (callFunc 65 #[.slice (some ⟨vb, voff, none⟩) 1 vc, .slice (some ⟨b, (i + 1) * 5, none⟩) lb cb]).run Try.prog w = .ok (.value (.bool false)) w := fun lb cb => by
    rw [run_callFunc_extern Try.func65 (by kernel_rfl) (by kernel_rfl) (by kernel_rfl) (e := Extern.SlicesOverlaps.overlaps #[23, 23] #[4]) (by kernel_rfl),
      Lib.run_overlaps_apart w 23 4 36 Try.underlying23 5 s36 ⟨vb, voff, none⟩ ⟨b, (i + 1) * 5, none⟩ 1 vc lb cb hvb tA tB kA kB hsa hsb hkB hfa hfe]
    rfl
  have hdl : (cs.drop (i * 5)).length = (n - i) * 5 := by rw [List.length_drop, hcl, ← Nat.sub_mul]
  have hw1 : IntKind.i64.wrap ((i : Int) + 1) = (i : Int) + 1 := by rw [IntKind.wrap_i64]; omega
  have hw2 : IntKind.i64.wrap ((n : Int) + 1) = (n : Int) + 1 := by rw [IntKind.wrap_i64]; omega
  have hb1 : (0 : Int) ≤ (i : Int) + 1 := by omega
  have hin : i ≤ n := by omega
  have htn : ((i : Int) + 1).toNat = i + 1 := by omega
  have hb2 : ¬ (c = i + 1) := by omega
  have hb3 : (i : Int) ≤ (n : Int) + 1 := by omega
  have hb4 : ¬ (c = i) := by omega
  have hmin1 : Nat.min (n + 1 - i) (n - i) = n - i := by show min _ _ = _; omega
  have hcp1 : ∀ ty dc sc, (Builtin.copy_ #[23, 23] ty #[.slice (some ⟨b, (i + 1) * 5, none⟩) (n - i) dc, .slice (some ⟨b, i * 5, none⟩) (n + 1 - i) sc]).run Try.prog w.drew = .ok (goInt ((n - i : Nat) : Int)) (w.drew.setCells b ((i + 1) * 5) (cs.drop (i * 5))) := fun ty dc sc => by
    have := run_copy_n (P := Try.prog) w.drew 23 23 ty 36 i0 b ((i + 1) * 5) (n - i) dc ⟨b, i * 5, none⟩ (n + 1 - i) sc (cs.drop (i * 5)) Try.underlying23 hi0 (by rw [hdl, hmin1, hz5])
      (fun j v hj => by rw [Addr.add_lit]; exact hcs (i * 5 + j) v (by rwa [List.getElem?_drop] at hj))
      (fun j hj => hsp _ (by rw [hdl] at hj; omega)) (fun j hj => hfz _ (by rw [hdl] at hj; omega)) (fun v hv => h1c v (List.mem_of_mem_drop hv))
    rwa [hmin1] at this
  obtain ⟨W1, hW1⟩ : ∃ W1, W1 = w.drew.setCells b ((i + 1) * 5) (cs.drop (i * 5)) := ⟨_, rfl⟩
  have hsp1 : ∀ k, k < (n + 1) * 5 → (W1.cell? ⟨b, k, none⟩).isSome = true := fun k hk => by
    rw [hW1]
    exact isSome_setCells b (cs.drop (i * 5)) ((i + 1) * 5) w.drew (fun j hj => hsp _ (by rw [hdl] at hj; omega)) k (hsp k hk)
  have hmin2 : Nat.min 1 (n + 1 - i) = 1 := by show min _ _ = _; omega
  have hcp2 : ∀ (W : World), (∀ x, W.cell? x = W1.cell? x) → (∀ x, W.frozen? x = W1.frozen? x) → ∀ ty dc, (Builtin.copy_ #[23, 23] ty #[.slice (some ⟨b, i * 5, none⟩) (n + 1 - i) dc, .slice (some ⟨vb, voff, none⟩) 1 vc]).run Try.prog W = .ok (goInt 1) (W.setCells b (i * 5) vs) := fun W hWc hWf ty dc => by
    have := run_copy_n (P := Try.prog) W 23 23 ty 36 i0 b (i * 5) (n + 1 - i) dc ⟨vb, voff, none⟩ 1 vc vs Try.underlying23 hi0 (by rw [hvl, hmin2, hz5])
      (fun j v hj => by
        rw [Addr.add_lit, hWc, hW1, World.cell?_setCells_out b _ _ _ _ (fun h _ => absurd h hvb)]
        exact hvs j v hj)
      (fun j hj => by rw [hWc]; exact hsp1 _ (by omega)) (fun j hj => by rw [hWf, hW1, World.frozen?_setCells]; exact hfz _ (by omega)) h1v
    rwa [hmin2] at this
  rw [← hW1] at hcp1
  go_enter Try.func58, Try.ntmps58
  go_wp2_with (simp only [hov])
  go_region_law_o (refine step_copy_runI rfl _ _ 23 23 rfl _ _ (by simp [Act.eval, Act.put]) (by simp [Act.eval, Act.put]) (hcp1 _ _ _) ?_)
  go_wp2_with (at_builtin; refine wpList_copy_runI _ rfl _ _ 23 23 rfl _ _ rfl rfl (hcp2 _ (fun _ => rfl) (fun _ => rfl) _ _) ?_)
  go_ret
  first | exact ⟨rfl, rfl⟩ | exact ⟨rfl, by rw [hW1]⟩

set_option maxHeartbeats 4000000 in
set_option maxRecDepth 100000 in
/-- There is no room, i < len(s): a new row. -/
theorem insert_grow (b n i vb voff vc : Nat) (cs vs : List Value) (w : World) (hi : i < n) (hbig : (n + 1) * 56 ≤ 140737488355328)
    (hcl : cs.length = n * 5) (hvl : vs.length = 5)
    (hcs : ∀ j v, cs[j]? = some v → w.cell? ⟨b, j, none⟩ = some v)
    (hvs : ∀ j v, vs[j]? = some v → w.cell? ⟨vb, voff + j, none⟩ = some v) (h1c : ∀ v ∈ cs, v.oneCell' = true) (h1v : ∀ v ∈ vs, v.oneCell' = true) :
    ∃ (G : Nat) (ROW : Array Value), n + 1 ≤ G ∧ ROW.size = G * 5 ∧ ROW.toList.take (i * 5) = cs.take (i * 5) ∧
    Calls Try.prog 58 #[.slice (some ⟨b, 0, none⟩) n n, .int .i64 i, .slice (some ⟨vb, voff, none⟩) 1 vc] w fun e w' =>
      e = .returned (.slice (some ⟨w.heap.size, 0, none⟩) (n + 1) G) ∧
      w' = (((w.alloc (.cells ROW 36)).drew.setCells w.heap.size (i * 5) vs).drew).setCells w.heap.size ((i + 1) * 5) (cs.drop (i * 5)) := by
  have mixed : Try.prog.follows .mixedOrders = true := by kernel_rfl
  obtain ⟨i0, hi0, hz5, hzb, hz0⟩ := i36
  obtain ⟨z, hz0⟩ := Option.isSome_iff_exists.1 hz0
  have hzc : z.cells.size = 5 := by
    have h : ((Try.prog.info? 36).bind fun i => i.zero.map fun z => z.cells.size) = some 5 := by kernel_rfl
    rw [hi0] at h; simp [hz0] at h; exact h
  have z36 := s36
  have hz2 : ¬ ((i : Int) = (n : Int)) := by omega
  have hz3 : (n : Int) < (n : Int) + 1 := by omega
  have hbw : b < w.heap.size := block_lt_of_cell (hcs 0 _ (List.getElem?_eq_getElem (by omega)))
  have hvw : vb < w.heap.size := block_lt_of_cell (hvs 0 _ (List.getElem?_eq_getElem (by omega)))
  have hkk : (n : Int) + 1 - (i : Int) = ((n + 1 - i : Nat) : Int) := by omega
  have hik : i + (n + 1 - i) = n + 1 := by omega
  have hold : (Builtin.firstCells i0.size i (.slice (some ⟨b, 0, none⟩) i n)).run Try.prog w.drew = .ok (cs.take (i * 5)).toArray w.drew := by
    rw [hz5]
    exact run_firstCells_some w.drew 5 i ⟨b, 0, none⟩ i n (cs.take (i * 5)) (by rw [List.length_take]; omega) (fun j v hj => by
      rw [Addr.add_lit]
      rw [List.getElem?_take] at hj
      split at hj
      · rw [Nat.zero_add]; exact hcs j v hj
      · cases hj)
  have hrz : ∀ ty, (Builtin.append_ #[23, 3] ty #[.slice (some ⟨b, 0, none⟩) i n, .int .i64 ((n : Int) + 1 - (i : Int))]).run Try.prog w =
      .ok (.slice (some ⟨w.heap.size, 0, none⟩) (n + 1) (grownCap w (n + 1) n 36)) (w.drew.alloc (.cells ((cs.take (i * 5)).toArray ++ Builtin.zeroCells z.cells (n + 1 - i) ++ Builtin.zeroCells z.cells (grownCap w (n + 1) n 36 - (n + 1))) 36)) := fun ty => by
    have h := Lib.run_append_grow_zeros w 23 3 ty 36 i0 z .i64 .i64 Try.underlying23 Try.underlying3 hi0 hz0 (some ⟨b, 0, none⟩) i n (cs.take (i * 5)) hold (n + 1 - i) (by omega) (by omega) (by omega) (by omega) (by rw [hzb]; omega) (by rw [hzb, hik]; exact growslice_fits (by omega) hbig)
    rw [hik] at h
    rw [hkk]
    exact h
  obtain ⟨G, hG⟩ : ∃ G, G = grownCap w (n + 1) n 36 := ⟨_, rfl⟩
  obtain ⟨ROW, hROW⟩ : ∃ ROW : Array Value, ROW = (cs.take (i * 5)).toArray ++ Builtin.zeroCells z.cells (n + 1 - i) ++ Builtin.zeroCells z.cells (G - (n + 1)) := ⟨_, rfl⟩
  rw [← hG] at hrz
  rw [← hROW] at hrz
  have hGn : n + 1 ≤ G := by rw [hG]; exact grownCap_ge w _ _ _
  have hct : (cs.take (i * 5)).length = i * 5 := by rw [List.length_take]; omega
  have hRs : ROW.size = G * 5 := by
    rw [hROW]
    simp only [Array.size_append, List.size_toArray, size_zeroCells, hzc, hct, ← Nat.add_mul]
    congr 1; omega
  refine ⟨G, ROW, hGn, hRs, ?_, ?_⟩
  · rw [hROW]
    simp only [Array.toList_append, List.append_assoc]
    rw [List.take_append, hct, Nat.sub_self, List.take_zero, List.append_nil, List.take_of_length_le (by omega)]
  have hRl : (n + 1) * 5 ≤ ROW.size := by omega
  obtain ⟨W1, hW1⟩ : ∃ W1, W1 = w.drew.alloc (.cells ROW 36) := ⟨_, rfl⟩
  rw [← hW1] at hrz
  have hN : ∀ j, j < (n + 1) * 5 → (W1.cell? ⟨w.heap.size, j, none⟩).isSome = true := fun j hj => by
    rw [hW1, World.cell?_alloc_at (w := w.drew) ROW _ w.heap.size j rfl, Array.getElem?_eq_getElem (by omega)]; rfl
  have hNf : ∀ j, W1.frozen? ⟨w.heap.size, j, none⟩ = false := fun j => by rw [hW1]; exact World.frozen?_alloc_at (w := w.drew) ROW _ w.heap.size j rfl
  have hOb : ∀ j v, w.cell? ⟨b, j, none⟩ = some v → W1.cell? ⟨b, j, none⟩ = some v := fun j v h => by rw [hW1, World.cell?_alloc_past (w := w.drew) _ b j hbw]; exact h
  have hOv : ∀ j v, w.cell? ⟨vb, j, none⟩ = some v → W1.cell? ⟨vb, j, none⟩ = some v := fun j v h => by rw [hW1, World.cell?_alloc_past (w := w.drew) _ vb j hvw]; exact h
  have hmin1 : Nat.min 1 (n + 1 - i) = 1 := by show min _ _ = _; omega
  have hcpA : ∀ (W : World), (∀ x, W.cell? x = W1.cell? x) → (∀ x, W.frozen? x = W1.frozen? x) → ∀ ty dc, (Builtin.copy_ #[23, 23] ty #[.slice (some ⟨w.heap.size, i * 5, none⟩) (n + 1 - i) dc, .slice (some ⟨vb, voff, none⟩) 1 vc]).run Try.prog W = .ok (goInt 1) (W.setCells w.heap.size (i * 5) vs) := fun W hWc hWf ty dc => by
    have := run_copy_n (P := Try.prog) W 23 23 ty 36 i0 w.heap.size (i * 5) (n + 1 - i) dc ⟨vb, voff, none⟩ 1 vc vs Try.underlying23 hi0 (by rw [hvl, hmin1, hz5])
      (fun j v hj => by rw [Addr.add_lit, hWc]; exact hOv _ v (hvs j v hj))
      (fun j hj => by rw [hWc]; exact hN _ (by omega)) (fun j hj => by rw [hWf]; exact hNf _) h1v
    rwa [hmin1] at this
  have hG63 : G ≤ 9223372036854775807 := by
    have := grownCap_le_maxLen w (n + 1) n 36 (by unfold maxLen; omega)
    rw [← hG] at this
    unfold maxLen at this
    omega
  have hGi : ¬ (G = i) := by omega
  have hGim : ¬ (G = i + 1) := by omega
  have hci : ¬ (n = i) := by omega
  have hbN : b ≠ w.heap.size := by omega
  have hdl : (cs.drop (i * 5)).length = (n - i) * 5 := by rw [List.length_drop, hcl, ← Nat.sub_mul]
  have hmin2 : Nat.min (n - i) (n - i) = n - i := by show min _ _ = _; omega
  have hcpB : ∀ (W : World), (∀ x, W.cell? x = (W1.setCells w.heap.size (i * 5) vs).cell? x) → (∀ x, W.frozen? x = (W1.setCells w.heap.size (i * 5) vs).frozen? x) → ∀ ty dc sc, (Builtin.copy_ #[23, 23] ty #[.slice (some ⟨w.heap.size, (i + 1) * 5, none⟩) (n - i) dc, .slice (some ⟨b, i * 5, none⟩) (n - i) sc]).run Try.prog W = .ok (goInt ((n - i : Nat) : Int)) (W.setCells w.heap.size ((i + 1) * 5) (cs.drop (i * 5))) := fun W hWc hWf ty dc sc => by
    have := run_copy_n (P := Try.prog) W 23 23 ty 36 i0 w.heap.size ((i + 1) * 5) (n - i) dc ⟨b, i * 5, none⟩ (n - i) sc (cs.drop (i * 5)) Try.underlying23 hi0 (by rw [hdl, hmin2, hz5])
      (fun j v hj => by
        rw [Addr.add_lit, hWc, World.cell?_setCells_out _ _ _ _ _ (fun h _ => absurd h hbN)]
        exact hOb _ v (hcs (i * 5 + j) v (by rwa [List.getElem?_drop] at hj)))
      (fun j hj => by rw [hWc]; exact isSome_setCells _ _ _ _ (fun t ht => hN _ (by omega)) _ (hN _ (by rw [hdl] at hj; omega)))
      (fun j hj => by rw [hWf, World.frozen?_setCells]; exact hNf _) (fun v hv => h1c v (List.mem_of_mem_drop hv))
    rwa [hmin2] at this
  subst hW1
  have hE1 : ∀ x, ((w.alloc (.cells ROW 36)).drew).cell? x = (w.drew.alloc (.cells ROW 36)).cell? x := fun x => rfl
  have hE2 : ∀ x, ((w.alloc (.cells ROW 36)).drew).frozen? x = (w.drew.alloc (.cells ROW 36)).frozen? x := fun x => rfl
  have hF1 : ∀ x, (((w.alloc (.cells ROW 36)).drew.setCells w.heap.size (i * 5) vs).drew).cell? x = ((w.drew.alloc (.cells ROW 36)).setCells w.heap.size (i * 5) vs).cell? x := fun x => rfl
  have hF2 : ∀ x, (((w.alloc (.cells ROW 36)).drew.setCells w.heap.size (i * 5) vs).drew).frozen? x = ((w.drew.alloc (.cells ROW 36)).setCells w.heap.size (i * 5) vs).frozen? x := fun x => rfl
  have hw1 : IntKind.i64.wrap ((i : Int) + 1) = (i : Int) + 1 := by rw [IntKind.wrap_i64]; omega
  have hw2 : IntKind.i64.wrap ((n : Int) + 1) = (n : Int) + 1 := by rw [IntKind.wrap_i64]; omega
  have hw3 : IntKind.i64.wrap ((n : Int) + 1 - (i : Int)) = (n : Int) + 1 - (i : Int) := by rw [IntKind.wrap_i64]; omega
  have hb1 : (0 : Int) ≤ (i : Int) + 1 := by omega
  have hin : i ≤ n := by omega
  have htn : ((i : Int) + 1).toNat = i + 1 := by omega
  have hb3 : (i : Int) ≤ (n : Int) := by omega
  clear hkk hik hold hROW hG hRl
  go_enter Try.func58, Try.ntmps58
  go_wp2_with (first
    | (at_builtin; refine Lib.wpList_append_run _ rfl _ _ _ _ rfl _ _ rfl rfl _ _ (hrz _) ?_)
    | (at_builtin; refine wpList_copy_runI _ rfl _ _ 23 23 rfl _ _ rfl rfl (hcpA _ hE1 hE2 _ _) ?_)
    | (at_builtin; refine wpList_copy_runI _ rfl _ _ 23 23 rfl _ _ rfl rfl (hcpB _ (fun _ => rfl) (fun _ => rfl) _ _ _) ?_))
  go_region_law_o (refine step_copy_runI rfl _ _ 23 23 rfl (.slice (some ⟨w.heap.size, (i + 1) * 5, none⟩) (n - i) (G - (i + 1))) (.slice (some ⟨b, i * 5, none⟩) (n - i) (n - i)) (by simp [Act.eval, Act.put]) (by simp [Act.eval, Act.put]) (hcpB _ hF1 hF2 3 (G - (i + 1)) (n - i)) ?_)
  go_wp2
  go_ret
  exact ⟨rfl, rfl⟩
end Go.Ins

/-
slices.Insert's specification.
-/
set_option linter.unusedVariables false
set_option linter.unusedSimpArgs false
namespace Go.Ev
open Go.Proofs
theorem drew_heap (w : World) : w.drew.heap = w.heap := rfl
theorem flat_ins {els : List AV} {x : AV} {i sz : Nat} (hz : ∀ e ∈ els, okE sz e) : flat (els.take i ++ [x] ++ els.drop i) = (flat els).take (i * sz) ++ cellsOf x ++ (flat els).drop (i * sz) := by
  have t1 : flat (els.take i) = (flat els).take (i * sz) := by have := flat_drop_take (l := 0) (n := i) hz; simpa using this
  have t2 : flat (els.drop i) = (flat els).drop (i * sz) := by
    have := flat_drop_take (l := i) (n := els.length) hz
    rw [List.take_of_length_le (by simp)] at this
    rw [this, List.take_of_length_le]
    rw [List.length_drop, flat_len hz]; omega
  rw [flat_app, flat_app, t1, t2]
  simp [flat]
theorem ins_cells {C N D : List Value} {i n sz : Nat} (hN : N.length = sz) (hD : D = C.take (n * sz)) (hi : i < n) (hC : (n + 1) * sz ≤ C.length) :
    (((C.take ((i + 1) * sz) ++ (D.drop (i * sz) ++ C.drop ((i + 1) * sz + (D.drop (i * sz)).length))).take (i * sz) ++ (N ++ (C.take ((i + 1) * sz) ++ (D.drop (i * sz) ++ C.drop ((i + 1) * sz + (D.drop (i * sz)).length))).drop (i * sz + N.length))).take ((n + 1) * sz)) = D.take (i * sz) ++ N ++ D.drop (i * sz) := by
  have e1 : (i + 1) * sz = i * sz + sz := by rw [Nat.add_mul]; omega
  have e2 : (n + 1) * sz = n * sz + sz := by rw [Nat.add_mul]; omega
  have e3 : i * sz + sz ≤ n * sz := by rw [← e1]; exact Nat.mul_le_mul_right _ hi
  have hDl : D.length = n * sz := by rw [hD, List.length_take]; omega
  have hdl : (D.drop (i * sz)).length = n * sz - i * sz := by rw [List.length_drop, hDl]
  have g1 : (C.take ((i + 1) * sz)).length = i * sz + sz := by rw [List.length_take]; omega
  have a1 : (C.take ((i + 1) * sz) ++ (D.drop (i * sz) ++ C.drop ((i + 1) * sz + (D.drop (i * sz)).length))).take (i * sz) = D.take (i * sz) := by
    rw [List.take_append_of_le_length (by omega), List.take_take, hD, List.take_take]
    congr 1; omega
  have a2 : (C.take ((i + 1) * sz) ++ (D.drop (i * sz) ++ C.drop ((i + 1) * sz + (D.drop (i * sz)).length))).drop (i * sz + N.length) = D.drop (i * sz) ++ C.drop ((i + 1) * sz + (D.drop (i * sz)).length) := by
    rw [hN, ← g1, List.drop_left]
  rw [a1, a2]
  have g2 : (D.take (i * sz)).length = i * sz := by rw [List.length_take]; omega
  have : (n + 1) * sz = (D.take (i * sz) ++ (N ++ D.drop (i * sz))).length := by simp only [List.length_append, g2, hN, hdl]; omega
  rw [← List.append_assoc N, ← List.append_assoc, this, ← List.append_assoc, List.take_append_of_le_length (by simp), List.take_of_length_le (by simp)]
theorem ins_cells2 {R N D : List Value} {i n sz : Nat} (hN : N.length = sz) (hDl : D.length = n * sz) (hR : R.take (i * sz) = D.take (i * sz)) (hi : i < n) (hRl : (n + 1) * sz ≤ R.length) :
    ((R.take (i * sz) ++ (N ++ R.drop (i * sz + N.length))).take ((i + 1) * sz) ++ (D.drop (i * sz) ++ (R.take (i * sz) ++ (N ++ R.drop (i * sz + N.length))).drop ((i + 1) * sz + (D.drop (i * sz)).length))).take ((n + 1) * sz) = D.take (i * sz) ++ N ++ D.drop (i * sz) := by
  have e1 : (i + 1) * sz = i * sz + sz := by rw [Nat.add_mul]; omega
  have e2 : (n + 1) * sz = n * sz + sz := by rw [Nat.add_mul]; omega
  have e3 : i * sz + sz ≤ n * sz := by rw [← e1]; exact Nat.mul_le_mul_right _ hi
  have hdl : (D.drop (i * sz)).length = n * sz - i * sz := by rw [List.length_drop, hDl]
  have g1 : (D.take (i * sz)).length = i * sz := by rw [List.length_take]; omega
  rw [hR]
  have a1 : (D.take (i * sz) ++ (N ++ R.drop (i * sz + N.length))).take ((i + 1) * sz) = D.take (i * sz) ++ N := by
    have : (i + 1) * sz = (D.take (i * sz) ++ N).length := by simp only [List.length_append, g1, hN]; omega
    rw [this, ← List.append_assoc, List.take_left]
  rw [a1]
  have : (n + 1) * sz = (D.take (i * sz) ++ N ++ D.drop (i * sz)).length := by simp only [List.length_append, g1, hN, hdl]; omega
  rw [this, ← List.append_assoc, List.take_left]

theorem insert_spec0 {els : List AV} {x : AV} {i : Nat} (hi : i < els.length) (hbig : (els.length + 1) * 56 ≤ 140737488355328) (hno : NoOL els) (hnx : NoO x) :
    Spec Try.prog 58 [.olst 5 els, .int .i64 i, .olst 5 [x]] (.olst 5 (els.take i ++ [x] ++ els.drop i)) [.undef, .int .i64 i, .olst 5 [x]] := by
  refine ⟨⟨Try.f58, Try.func58, by kernel_rfl, by kernel_rfl⟩, fun w st vs L hrep hown => ?_⟩
  obtain ⟨vs⟩ := vs
  simp only at hrep
  obtain ⟨v0, r0, l0, m0, rfl, rfl, h0, hrep⟩ := hrep.inv
  obtain ⟨v1, r1, l1, m1, rfl, rfl, h1, hrep⟩ := hrep.inv
  obtain ⟨v2, r2, l2, m2, rfl, rfl, h2, hrep⟩ := hrep.inv
  cases hrep
  cases h1
  cases h0 with
  | olst0 => simp at hi
  | @olst _ _ b cap cells ty fr l hb ho hc hl hm hz hh =>
  cases h2 with
  | @olst _ _ vb vc cells2 ty2 fr2 l2 hb2 ho2 hc2 hl2 hm2 hz2 hh2 =>
  obtain rfl := noOL hh (noOL_flat hno)
  obtain rfl := noOL hh2 (noOL_flat (by simp [NoOL, hnx]))
  have hb : w.heap[b]? = some (.cells cells ty fr) := hb
  have hb2 : w.heap[vb]? = some (.cells cells2 ty2 fr2) := hb2
  have hnd := hown.nodup
  have hne : vb ≠ b := by rintro rfl; simp at hnd
  obtain ⟨D, hD⟩ : ∃ D, D = cells.toList.take (els.length * 5) := ⟨_, rfl⟩
  obtain ⟨N, hN⟩ : ∃ N, N = cells2.toList.take 5 := ⟨_, rfl⟩
  have hcs : cells.toList.length = cells.size := by simp
  have hcs2 : cells2.toList.length = cells2.size := by simp
  have hlc : els.length * 5 ≤ cells.size := by rw [hc]; exact Nat.mul_le_mul_right _ hl
  have hDl : D.length = els.length * 5 := by rw [hD, List.length_take]; omega
  have hl2' : 5 ≤ cells2.size := by simp at hl2; omega
  have hNl : N.length = 5 := by rw [hN, List.length_take]; omega
  have hh : RepL (bare w.heap st) (flat els) D [] := hD ▸ hh
  have hh2 : RepL (bare w.heap st) (cellsOf x) N [] := by
    have e : flat [x] = cellsOf x := by simp [flat]
    rw [e] at hh2
    have e2 : cells2.toList.take ([x].length * 5) = N := by rw [hN]; simp
    rwa [e2] at hh2
  have hDc : ∀ j v, D[j]? = some v → w.cell? ⟨b, j, none⟩ = some v := fun j v hj => by
    rw [cell_at]; unfold cellAt; rw [hb]; show cells[j]? = some v
    rw [← Array.getElem?_toList]
    rw [hD, List.getElem?_take] at hj
    split at hj
    · exact hj
    · cases hj
  have hNc : ∀ j v, N[j]? = some v → w.cell? ⟨vb, 0 + j, none⟩ = some v := fun j v hj => by
    rw [cell_at]; unfold cellAt; rw [hb2]; show cells2[0 + j]? = some v
    rw [← Array.getElem?_toList, Nat.zero_add]
    rw [hN, List.getElem?_take] at hj
    split at hj
    · exact hj
    · cases hj
  have hD1 := cellsL_one hh (allC1_flat hz)
  have hN1 := cellsL_one hh2 (hz2 x (by simp)).2
  have hokall : ∀ e ∈ els.take i ++ [x] ++ els.drop i, okE 5 e := fun e he => by
    rcases List.mem_append.1 he with he | he
    · rcases List.mem_append.1 he with he | he
      · exact hz e (List.mem_of_mem_take he)
      · obtain rfl := List.mem_singleton.1 he; exact hz2 _ (by simp)
    · exact hz e (List.mem_of_mem_drop he)
  have hlen : (els.take i ++ [x] ++ els.drop i).length = els.length + 1 := by simp; omega
  have hmx : (els.take i ++ [x] ++ els.drop i).length ≤ MX := by rw [hlen]; unfold MX; omega
  have hbL : b < w.heap.size := (Array.getElem?_eq_some_iff.1 hb).1
  have hvL : vb < w.heap.size := (Array.getElem?_eq_some_iff.1 hb2).1
  -- what the cells of the result stand for
  have hrepD : ∀ (h' : Array Obj), (∀ k, st false k → h'[k]? = w.heap[k]?) → RepL (bare h' st) (flat (els.take i ++ [x] ++ els.drop i)) (D.take (i * 5) ++ N ++ D.drop (i * 5)) [] ∧ RepL (bare h' st) (flat [x]) N [] := fun h' hh' => by
    have x0 : Ext (bare w.heap st) (bare h' st) [] := ⟨fun k hk => hk.elim (fun hk => hh' k hk) (fun hk => nomatch hk), fun _ _ h => h, hown.sub, fun id x hx => nomatch hx⟩
    rw [flat_ins hz]
    have h1 := (hh.ext x0)
    have h2 := hh2.ext x0
    have e : flat [x] = cellsOf x := by simp [flat]
    have h3 := ((h1.take (i * 5)).append h2).append (h1.drop (i * 5))
    exact ⟨by simpa using h3, by rw [e]; exact h2⟩
  by_cases hroom : els.length + 1 ≤ cap
  · have hcap5 : (els.length + 1) * 5 ≤ cells.size := by rw [hc]; exact Nat.mul_le_mul_right _ hroom
    refine (Go.Ins.insert_shift b els.length cap i vb 0 vc D N w hi hroom hbig hne hDl hNl hDc
      (fun j hj => by rw [cell_at]; unfold cellAt; rw [hb]; show (cells[j]?).isSome = true; simp; omega)
      (fun j hj => by unfold World.frozen?; rw [hb]; have := ho j (by omega); simp only [Bool.and_eq_false_iff, decide_eq_false_iff_not]; omega)
      hNc hD1 hN1 ty2 ty cells2.size cells.size (by unfold World.shape?; rw [hb2]) (by unfold World.shape?; rw [hb]) (by omega)
      (by unfold World.frozen?; rw [hb2]; have := ho2 0 (by omega); simp only [Bool.and_eq_false_iff, decide_eq_false_iff_not]; omega)
      (by unfold World.frozen?; rw [hb2]; have := ho2 cells2.size (by omega); simp only [Bool.and_eq_false_iff, decide_eq_false_iff_not]; omega)).mono fun e w' ⟨he, hw⟩ => ?_
    have hdl : (D.drop (i * 5)).length = (els.length - i) * 5 := by rw [List.length_drop, hDl, ← Nat.sub_mul]
    obtain ⟨c1, p1, p2, p3, p4, p5, p6, p7, p8⟩ := setCells_is (D.drop (i * 5)) ((i + 1) * 5) w.drew cells (b := b) (ty := ty) (fr := fr) hb (by rw [hdl]; omega)
    obtain ⟨c2, q1, q2, q3, q4, q5, q6, q7, q8⟩ := setCells_is N (i * 5) _ c1 (b := b) (ty := ty) (fr := fr) p1 (by rw [p3, hNl]; omega)
    rw [← hw] at q1 q4 q5 q6 q7 q8
    have hkeep : ∀ k, k ≠ b → w'.heap[k]? = w.heap[k]? := fun k hk => (q4 k hk).trans (p4 k hk)
    have hrd := hrepD w'.heap fun k hk => hkeep k fun e => hown.off b (by simp) (e ▸ hk)
    refine ⟨_, st, [b, vb], he, ?_, ?_, ?_⟩
    · refine RepL.cons (l := [b]) (m := [vb]) ?_ (.cons (l := []) (.undef _) (.cons (l := []) (.int _ _) (.cons (l := [vb]) (m := []) ?_ .nil)))
      · have := Rep.olst (E := bare w'.heap st) (sz := 5) (els := els.take i ++ [x] ++ els.drop i) (cap := cap) (l := []) q1 (by rw [q3, p3]; exact ho) (by rw [q3, p3]; exact hc) (by rw [hlen]; exact hroom) hmx hokall (by
          rw [hlen, q2, p2, ins_cells hNl hD hi (by rw [hcs]; exact hcap5)]
          exact hrd.1)
        rw [hlen] at this
        exact this
      · exact Rep.olst (E := bare w'.heap st) (l := []) ((hkeep vb hne).trans hb2) ho2 hc2 hl2 hm2 hz2 (by
          have e2 : cells2.toList.take ([x].length * 5) = N := by rw [hN]; simp
          rw [e2]; exact hrd.2)
    · refine ⟨by simpa using fun h => hne h.symm, fun k hk => ?_, fun k hk => hown.off k (by simpa using hk), fun fl k hk => ?_, hown.sub⟩
      · show k < w'.heap.size
        rw [q5, p5]
        simp at hk
        rcases hk with rfl | rfl
        · exact hbL
        · exact hvL
      · show k < w'.heap.size
        rw [q5, p5]; exact hown.stlt fl k hk
    · refine ⟨by rw [q5, p5]; exact Nat.le_refl _, fun k hk hn => hkeep k fun e => hn (by simp [e]), fun _ _ h => h, fun _ h => .inl h, fun _ _ h => .inl h, fun k hk => .inl (by simpa using hk), q6.trans p6, q7.trans p7, q8.trans p8⟩
  · obtain rfl : cap = els.length := by omega
    obtain ⟨G, ROW, hG, hRs, hRt, hcalls⟩ := Go.Ins.insert_grow b els.length i vb 0 vc D N w hi hbig hDl hNl hDc hNc hD1 hN1
    refine hcalls.mono fun e w' ⟨he, hw⟩ => ?_
    have hRl : ROW.toList.length = ROW.size := by simp
    have h5 : (els.length + 1) * 5 ≤ ROW.size := by rw [hRs]; exact Nat.mul_le_mul_right _ hG
    have hdl : (D.drop (i * 5)).length = (els.length - i) * 5 := by rw [List.length_drop, hDl, ← Nat.sub_mul]
    have hal : (w.alloc (.cells ROW 36)).drew.heap = w.heap.push (.cells ROW 36) := rfl
    have hat : (w.alloc (.cells ROW 36)).drew.heap[w.heap.size]? = some (.cells ROW 36) := by rw [hal]; simp
    obtain ⟨c1, p1, p2, p3, p4, p5, p6, p7, p8⟩ := setCells_is N (i * 5) _ ROW (b := w.heap.size) hat (by rw [hNl]; omega)
    obtain ⟨c2, q1, q2, q3, q4, q5, q6, q7, q8⟩ := setCells_is (D.drop (i * 5)) ((i + 1) * 5) (((w.alloc (.cells ROW 36)).drew.setCells w.heap.size (i * 5) N).drew) c1 (b := w.heap.size) p1 (by rw [p3, hdl]; omega)
    rw [← hw] at q1 q4 q5 q6 q7 q8
    have hkeep : ∀ k, k < w.heap.size → w'.heap[k]? = w.heap[k]? := fun k hk => by
      rw [q4 k (by omega)]
      show ((w.alloc (.cells ROW 36)).drew.setCells w.heap.size (i * 5) N).heap[k]? = _
      rw [p4 k (by omega), hal, Array.getElem?_push_lt hk, Array.getElem?_eq_getElem hk]
    have hsize : w'.heap.size = w.heap.size + 1 := by
      rw [q5]
      show ((w.alloc (.cells ROW 36)).drew.setCells w.heap.size (i * 5) N).heap.size = _
      rw [p5, hal]; simp
    have hrd := hrepD w'.heap fun k hk => hkeep k (hown.stlt _ _ hk)
    refine ⟨_, st, [w.heap.size, vb], he, ?_, ?_, ?_⟩
    · refine RepL.cons (l := [w.heap.size]) (m := [vb]) ?_ (.cons (l := []) (.undef _) (.cons (l := []) (.int _ _) (.cons (l := [vb]) (m := []) ?_ .nil)))
      · have := Rep.olst (E := bare w'.heap st) (sz := 5) (els := els.take i ++ [x] ++ els.drop i) (cap := G) (l := []) q1 (by rw [q3, p3]; intro k _ h; simp at h) (by rw [q3, p3]; exact hRs) (by rw [hlen]; exact hG) hmx hokall (by
          rw [hlen, q2, p2, ins_cells2 hNl hDl hRt hi (by rw [hRl]; exact h5)]
          exact hrd.1)
        rw [hlen] at this
        exact this
      · exact Rep.olst (E := bare w'.heap st) (l := []) ((hkeep vb hvL).trans hb2) ho2 hc2 hl2 hm2 hz2 (by
          have e2 : cells2.toList.take ([x].length * 5) = N := by rw [hN]; simp
          rw [e2]; exact hrd.2)
    · refine ⟨by simp; omega, fun k hk => ?_, fun k hk => ?_, fun fl k hk => ?_, hown.sub⟩
      · show k < w'.heap.size
        rw [hsize]
        simp at hk
        rcases hk with rfl | rfl <;> omega
      · simp at hk
        rcases hk with rfl | rfl
        · intro h; have := hown.stlt _ _ h; exact absurd this (Nat.lt_irrefl _)
        · exact hown.off k (by simp)
      · show k < w'.heap.size
        rw [hsize]; exact Nat.lt_succ_of_lt (hown.stlt fl k hk)
    · refine ⟨by rw [hsize]; omega, fun k hk hn => hkeep k hk, fun _ _ h => h, fun _ h => .inl h, fun _ _ h => .inl h, fun k hk => ?_, q6.trans p6, q7.trans p7, q8.trans p8⟩
      simp at hk
      rcases hk with rfl | rfl
      · exact .inr (Nat.le_refl _)
      · exact .inl (by simp)
end Go.Ev

set_option linter.unusedVariables false
set_option linter.unusedSimpArgs false
namespace Go.Ev
set_option maxRecDepth 100000
set_option maxHeartbeats 0
open Go.Proofs
/-! Texts in order. -/
theorem bl_irrefl : ∀ (a : List UInt8), Op.bytesLess a a = false
  | [] => rfl
  | a :: x => by simp [Op.bytesLess, bl_irrefl x]
theorem bl_trans : ∀ {a b c : List UInt8}, Op.bytesLess a b = true → Op.bytesLess b c = true → Op.bytesLess a c = true
  | _, [], _, h, _ => by simp [Op.bytesLess] at h
  | _, _ :: _, [], _, h => by simp [Op.bytesLess] at h
  | [], _ :: _, _ :: _, _, _ => rfl
  | a :: x, b :: y, c :: z, h1, h2 => by
    simp only [Op.bytesLess, Bool.or_eq_true, decide_eq_true_eq, Bool.and_eq_true, beq_iff_eq] at *
    rcases h1 with h1 | ⟨rfl, h1⟩
    · rcases h2 with h2 | ⟨rfl, h2⟩
      · exact .inl (UInt8.lt_trans h1 h2)
      · exact .inl h1
    · rcases h2 with h2 | ⟨rfl, h2⟩
      · exact .inl h2
      · exact .inr ⟨rfl, bl_trans h1 h2⟩
theorem bl_eq : ∀ {a b : List UInt8}, Op.bytesLess a b = false → Op.bytesLess b a = false → a = b
  | [], [], _, _ => rfl
  | [], _ :: _, h, _ => by simp [Op.bytesLess] at h
  | _ :: _, [], _, h => by simp [Op.bytesLess] at h
  | a :: x, b :: y, h1, h2 => by
    simp only [Op.bytesLess, Bool.or_eq_false_iff, decide_eq_false_iff_not, Bool.and_eq_false_iff, beq_eq_false_iff_ne] at *
    have hab : a = b := UInt8.le_antisymm (UInt8.not_lt.1 h2.1) (UInt8.not_lt.1 h1.1)
    subst hab
    congr 1
    exact bl_eq (h1.2.resolve_left fun h => h rfl) (h2.2.resolve_left fun h => h rfl)
theorem bl_asymm {a b : List UInt8} (h : Op.bytesLess a b = true) : Op.bytesLess b a = false := by
  cases hb : Op.bytesLess b a with
  | false => rfl
  | true => have := bl_trans h hb; rw [bl_irrefl] at this; cases this
def SortedK (l : List RecA) : Prop := l.Pairwise fun a b => Op.bytesLess a.key b.key = true
def lb (l : List RecA) (k : List UInt8) : Nat := (l.takeWhile fun r => Op.bytesLess r.key k).length
theorem lb_le {l : List RecA} {k : List UInt8} : lb l k ≤ l.length := by
  unfold lb
  exact (List.takeWhile_prefix _).length_le
theorem lb_lt : ∀ {l : List RecA} {k : List UInt8} {j : Nat} (h : j < l.length), j < lb l k → Op.bytesLess l[j].key k = true
  | [], _, _, h, _ => by simp at h
  | r :: l, k, j, h, hj => by
    unfold lb at hj
    rw [List.takeWhile_cons] at hj
    split at hj
    · rename_i hr
      cases j with
      | zero => exact hr
      | succ j => exact lb_lt (l := l) (by simpa using h) (by unfold lb; simpa using hj)
    · simp at hj
theorem lb_ge : ∀ {l : List RecA} {k : List UInt8}, SortedK l → ∀ {j : Nat} (h : j < l.length), lb l k ≤ j → Op.bytesLess l[j].key k = false
  | [], _, _, _, h, _ => by simp at h
  | r :: l, k, hs, j, h, hj => by
    have hs' := List.pairwise_cons.1 hs
    unfold lb at hj
    rw [List.takeWhile_cons] at hj
    split at hj
    · rename_i hr
      cases j with
      | zero => simp at hj
      | succ j => exact lb_ge (l := l) hs'.2 (by simpa using h) (by unfold lb; simpa using hj)
    · rename_i hr
      have hr : Op.bytesLess r.key k = false := by simpa using hr
      cases j with
      | zero => exact hr
      | succ j =>
        have hj' : j < l.length := by simpa using h
        have h1 := hs'.1 l[j] (List.getElem_mem _)
        cases hc : Op.bytesLess (r :: l)[j + 1].key k with
        | false => rfl
        | true => have := bl_trans h1 (by simpa using hc); rw [hr] at this; cases this
theorem lb_unique {l : List RecA} {k : List UInt8} (hs : SortedK l) {i : Nat} (hi : i ≤ l.length) (h1 : ∀ j (h : j < l.length), j < i → Op.bytesLess l[j].key k = true) (h2 : ∀ j (h : j < l.length), i ≤ j → Op.bytesLess l[j].key k = false) : lb l k = i := by
  have hle := lb_le (l := l) (k := k)
  rcases Nat.lt_trichotomy (lb l k) i with h | h | h
  · have a := h1 (lb l k) (by omega) h
    have b := lb_ge hs (j := lb l k) (by omega) (Nat.le_refl _)
    rw [a] at b; cases b
  · exact h
  · have a := lb_lt (l := l) (k := k) (j := i) (by omega) h
    have b := h2 i (by omega) (Nat.le_refl _)
    rw [a] at b; cases b
theorem half_nat {i j : Nat} : ((i : Int) + (j : Int)).fdiv (2 ^ min 1 64) = (((i + j) / 2 : Nat) : Int) := by
  show ((i : Int) + (j : Int)).fdiv 2 = _
  rw [Int.fdiv_eq_ediv_of_nonneg _ (by decide)]
  omega
theorem not_true' {b : Bool} : (!b) = true ↔ b = false := by cases b <;> simp
attribute [push_cast] half_nat
theorem fromc_spec (nx : Int) (l : List RecA) (k : List UInt8) (i : Nat) (hi : i < l.length) : Spec Try.prog 60 [.int .i64 i, .fz [.fz [.int .i64 nx, .lst false 5 (l.map encA)]], .fz [.str (ofL k)]] (.bool (!Op.bytesLess l[i].key k)) [.int .i64 i, .fz [.fz [.int .i64 nx, .lst false 5 (l.map encA)]], .fz [.str (ofL k)]] := by
  refine spec_run (P := Try.prog) (f := 60) (fn := Try.f60) (by kernel_rfl) (by kernel_rfl) rfl (by simp [Try.f60]) ?_; simp (maxSteps := 1000000) (disch := omega) only [push_cast, go_sem, Nat.reduceEqDiff, ↓reduceIte, reduceCtorEq, Nat.reduceAdd, Nat.reduceSub, Nat.reduceLeDiff, Nat.reduceLT, Int.reduceLT, Int.reduceLE, Int.reduceEq, Int.reduceNeg, Nat.reduceMul, Int.reduceAdd, Int.reduceToNat, Try.f60, *]
  repeat' (first
    | with_reducible refine And.intro ?_ ?_
    | (with_reducible intro hx; (try simp only [false_dec, true_dec, Int.ofNat_inj, gt_iff_lt, ge_iff_le, decide_eq_true_eq, decide_eq_false_iff_not, Bool.not_eq_true', Bool.not_eq_false', Bool.and_eq_true, Bool.or_eq_false_iff, ne_eq, Classical.not_not] at hx); (first | (exfalso; omega) | (try simp (maxSteps := 1000000) (disch := omega) only [push_cast, go_sem, Nat.reduceEqDiff, ↓reduceIte, reduceCtorEq, Nat.reduceAdd, Nat.reduceSub, Nat.reduceLeDiff, Nat.reduceLT, Int.reduceLT, Int.reduceLE, Int.reduceEq, Int.reduceNeg, Nat.reduceMul, Int.reduceAdd, Int.reduceToNat, *])))
    | (with_reducible refine branch_t ?_; (try simp (maxSteps := 1000000) (disch := omega) only [push_cast, go_sem, Nat.reduceEqDiff, ↓reduceIte, reduceCtorEq, Nat.reduceAdd, Nat.reduceSub, Nat.reduceLeDiff, Nat.reduceLT, Int.reduceLT, Int.reduceLE, Int.reduceEq, Int.reduceNeg, Nat.reduceMul, Int.reduceAdd, Int.reduceToNat, *]))
    | (with_reducible refine branch_f ?_; (try simp (maxSteps := 1000000) (disch := omega) only [push_cast, go_sem, Nat.reduceEqDiff, ↓reduceIte, reduceCtorEq, Nat.reduceAdd, Nat.reduceSub, Nat.reduceLeDiff, Nat.reduceLT, Int.reduceLT, Int.reduceLE, Int.reduceEq, Int.reduceNeg, Nat.reduceMul, Int.reduceAdd, Int.reduceToNat, *]))
    | (with_reducible refine cond_split ?_ ?_)
    | (with_reducible refine guard_split ?_ ?_)
    | ((with_reducible refine drw_open 0 ?_); simp (maxSteps := 1000000) (disch := omega) only [push_cast, go_sem, Nat.reduceEqDiff, ↓reduceIte, reduceCtorEq, Nat.reduceAdd, Nat.reduceSub, Nat.reduceLeDiff, Nat.reduceLT, Int.reduceLT, Int.reduceLE, Int.reduceEq, Int.reduceNeg, Nat.reduceMul, Int.reduceAdd, Int.reduceToNat, *]; (with_reducible refine drw_id ?_))
    | ((with_reducible refine drw_open 1 ?_); simp (maxSteps := 1000000) (disch := omega) only [push_cast, go_sem, Nat.reduceEqDiff, ↓reduceIte, reduceCtorEq, Nat.reduceAdd, Nat.reduceSub, Nat.reduceLeDiff, Nat.reduceLT, Int.reduceLT, Int.reduceLE, Int.reduceEq, Int.reduceNeg, Nat.reduceMul, Int.reduceAdd, Int.reduceToNat, *]; (with_reducible refine drw_id ?_))
    | ((with_reducible refine drw_open 2 ?_); simp (maxSteps := 1000000) (disch := omega) only [push_cast, go_sem, Nat.reduceEqDiff, ↓reduceIte, reduceCtorEq, Nat.reduceAdd, Nat.reduceSub, Nat.reduceLeDiff, Nat.reduceLT, Int.reduceLT, Int.reduceLE, Int.reduceEq, Int.reduceNeg, Nat.reduceMul, Int.reduceAdd, Int.reduceToNat, *]; (with_reducible refine drw_id ?_))
    | ((with_reducible refine drw_intro ?_ ?_); (focus decide +kernel); (try simp (maxSteps := 1000000) (disch := omega) only [push_cast, go_sem, Nat.reduceEqDiff, ↓reduceIte, reduceCtorEq, Nat.reduceAdd, Nat.reduceSub, Nat.reduceLeDiff, Nat.reduceLT, Int.reduceLT, Int.reduceLE, Int.reduceEq, Int.reduceNeg, Nat.reduceMul, Int.reduceAdd, Int.reduceToNat, *]))
    | (with_reducible refine still_split ?_ ?_)
    | omega)
theorem fromc_is {nx : Int} {l : List RecA} {k : List UInt8} {m : Int} (i : Nat) (hi : i < l.length) (hm : m = i) : Spec Try.prog 60 [.int .i64 m, .fz [.fz [.int .i64 nx, .lst false 5 (l.map encA)]], .fz [.str (ofL k)]] (.bool (!Op.bytesLess l[i].key k)) [.int .i64 m, .fz [.fz [.int .i64 nx, .lst false 5 (l.map encA)]], .fz [.str (ofL k)]] := by
  subst hm; exact fromc_spec nx l k i hi
theorem search_spec (nx : Int) (l : List RecA) (k : List UInt8) (hs : SortedK l) (hl : l.length ≤ 140737488355328) : Spec Try.prog 59 [.int .i64 l.length, .clo 60 [.fz [.fz [.int .i64 nx, .lst false 5 (l.map encA)]], .fz [.str (ofL k)]]] (.int .i64 (lb l k)) [.int .i64 l.length, .clo 60 [.fz [.fz [.int .i64 nx, .lst false 5 (l.map encA)]], .fz [.str (ofL k)]]] := by
  refine spec_run (P := Try.prog) (f := 59) (fn := Try.f59) (by kernel_rfl) (by kernel_rfl) rfl (by simp [Try.f59]) ?_; simp (maxSteps := 1000000) (disch := omega) only [push_cast, go_sem, Nat.reduceEqDiff, ↓reduceIte, reduceCtorEq, Nat.reduceAdd, Nat.reduceSub, Nat.reduceLeDiff, Nat.reduceLT, Int.reduceLT, Int.reduceLE, Int.reduceEq, Int.reduceNeg, Nat.reduceMul, Int.reduceAdd, Int.reduceToNat, Try.f59, *]
  repeat' (first
    | with_reducible refine And.intro ?_ ?_
    | (with_reducible intro hx; (try simp only [false_dec, true_dec, Int.ofNat_inj, gt_iff_lt, ge_iff_le, decide_eq_true_eq, decide_eq_false_iff_not, Bool.not_eq_true', Bool.not_eq_false', Bool.and_eq_true, Bool.or_eq_false_iff, ne_eq, Classical.not_not] at hx); (first | (exfalso; omega) | (try simp (maxSteps := 1000000) (disch := omega) only [push_cast, go_sem, Nat.reduceEqDiff, ↓reduceIte, reduceCtorEq, Nat.reduceAdd, Nat.reduceSub, Nat.reduceLeDiff, Nat.reduceLT, Int.reduceLT, Int.reduceLE, Int.reduceEq, Int.reduceNeg, Nat.reduceMul, Int.reduceAdd, Int.reduceToNat, *])))
    | (with_reducible refine branch_t ?_; (try simp (maxSteps := 1000000) (disch := omega) only [push_cast, go_sem, Nat.reduceEqDiff, ↓reduceIte, reduceCtorEq, Nat.reduceAdd, Nat.reduceSub, Nat.reduceLeDiff, Nat.reduceLT, Int.reduceLT, Int.reduceLE, Int.reduceEq, Int.reduceNeg, Nat.reduceMul, Int.reduceAdd, Int.reduceToNat, *]))
    | (with_reducible refine branch_f ?_; (try simp (maxSteps := 1000000) (disch := omega) only [push_cast, go_sem, Nat.reduceEqDiff, ↓reduceIte, reduceCtorEq, Nat.reduceAdd, Nat.reduceSub, Nat.reduceLeDiff, Nat.reduceLT, Int.reduceLT, Int.reduceLE, Int.reduceEq, Int.reduceNeg, Nat.reduceMul, Int.reduceAdd, Int.reduceToNat, *]))
    | (with_reducible refine cond_split ?_ ?_)
    | (with_reducible refine guard_split ?_ ?_)
    | ((with_reducible refine drw_open 0 ?_); simp (maxSteps := 1000000) (disch := omega) only [push_cast, go_sem, Nat.reduceEqDiff, ↓reduceIte, reduceCtorEq, Nat.reduceAdd, Nat.reduceSub, Nat.reduceLeDiff, Nat.reduceLT, Int.reduceLT, Int.reduceLE, Int.reduceEq, Int.reduceNeg, Nat.reduceMul, Int.reduceAdd, Int.reduceToNat, *]; (with_reducible refine drw_id ?_))
    | ((with_reducible refine drw_open 1 ?_); simp (maxSteps := 1000000) (disch := omega) only [push_cast, go_sem, Nat.reduceEqDiff, ↓reduceIte, reduceCtorEq, Nat.reduceAdd, Nat.reduceSub, Nat.reduceLeDiff, Nat.reduceLT, Int.reduceLT, Int.reduceLE, Int.reduceEq, Int.reduceNeg, Nat.reduceMul, Int.reduceAdd, Int.reduceToNat, *]; (with_reducible refine drw_id ?_))
    | ((with_reducible refine drw_open 2 ?_); simp (maxSteps := 1000000) (disch := omega) only [push_cast, go_sem, Nat.reduceEqDiff, ↓reduceIte, reduceCtorEq, Nat.reduceAdd, Nat.reduceSub, Nat.reduceLeDiff, Nat.reduceLT, Int.reduceLT, Int.reduceLE, Int.reduceEq, Int.reduceNeg, Nat.reduceMul, Int.reduceAdd, Int.reduceToNat, *]; (with_reducible refine drw_id ?_))
    | ((with_reducible refine drw_intro ?_ ?_); (focus decide +kernel); (try simp (maxSteps := 1000000) (disch := omega) only [push_cast, go_sem, Nat.reduceEqDiff, ↓reduceIte, reduceCtorEq, Nat.reduceAdd, Nat.reduceSub, Nat.reduceLeDiff, Nat.reduceLT, Int.reduceLT, Int.reduceLE, Int.reduceEq, Int.reduceNeg, Nat.reduceMul, Int.reduceAdd, Int.reduceToNat, *]))
    | (with_reducible refine still_split ?_ ?_)
    | omega)
  refine loop_by (σ := Nat × Nat) (fun x N => ([(5, .int .i64 x.1), (6, .int .i64 x.2), (0, .int .i64 l.length), (1, .clo 60 [.fz [.fz [.int .i64 nx, .lst false 5 (l.map encA)]], .fz [.str (ofL k)]])], []))
    (fun x => x.1 ≤ x.2 ∧ x.2 ≤ l.length ∧ (∀ j (h : j < l.length), j < x.1 → Op.bytesLess l[j].key k = true) ∧ (∀ j (h : j < l.length), x.2 ≤ j → Op.bytesLess l[j].key k = false)) (fun x => x.2 - x.1) (0, l.length) _
    ⟨Nat.zero_le _, Nat.le_refl _, fun j _ h => absurd h (Nat.not_lt_zero _), fun j h h' => absurd h (by dsimp only at h'; omega)⟩ (by simp (maxSteps := 1000000) (disch := omega) only [push_cast, go_sem, Nat.reduceEqDiff, ↓reduceIte, reduceCtorEq, Nat.reduceAdd, Nat.reduceSub, Nat.reduceLeDiff, Nat.reduceLT, Int.reduceLT, Int.reduceLE, Int.reduceEq, Int.reduceNeg, Nat.reduceMul, Int.reduceAdd, Int.reduceToNat, *]) (by simp (maxSteps := 1000000) (disch := omega) only [push_cast, go_sem, Nat.reduceEqDiff, ↓reduceIte, reduceCtorEq, Nat.reduceAdd, Nat.reduceSub, Nat.reduceLeDiff, Nat.reduceLT, Int.reduceLT, Int.reduceLE, Int.reduceEq, Int.reduceNeg, Nat.reduceMul, Int.reduceAdd, Int.reduceToNat, *]) (Nat.le_refl _) ?_
  rintro ⟨i, j⟩ N hN ⟨hij, hj, h1, h2⟩
  dsimp only at *
  simp (maxSteps := 1000000) (disch := omega) only [push_cast, go_sem, Nat.reduceEqDiff, ↓reduceIte, reduceCtorEq, Nat.reduceAdd, Nat.reduceSub, Nat.reduceLeDiff, Nat.reduceLT, Int.reduceLT, Int.reduceLE, Int.reduceEq, Int.reduceNeg, Nat.reduceMul, Int.reduceAdd, Int.reduceToNat, *]
  repeat' (first
    | with_reducible refine And.intro ?_ ?_
    | (with_reducible intro hx; (try simp only [false_dec, true_dec, Int.ofNat_inj, gt_iff_lt, ge_iff_le, decide_eq_true_eq, decide_eq_false_iff_not, Bool.not_eq_true', Bool.not_eq_false', Bool.and_eq_true, Bool.or_eq_false_iff, ne_eq, Classical.not_not] at hx); (first | (exfalso; omega) | (try simp (maxSteps := 1000000) (disch := omega) only [push_cast, go_sem, Nat.reduceEqDiff, ↓reduceIte, reduceCtorEq, Nat.reduceAdd, Nat.reduceSub, Nat.reduceLeDiff, Nat.reduceLT, Int.reduceLT, Int.reduceLE, Int.reduceEq, Int.reduceNeg, Nat.reduceMul, Int.reduceAdd, Int.reduceToNat, *])))
    | (with_reducible refine branch_t ?_; (try simp (maxSteps := 1000000) (disch := omega) only [push_cast, go_sem, Nat.reduceEqDiff, ↓reduceIte, reduceCtorEq, Nat.reduceAdd, Nat.reduceSub, Nat.reduceLeDiff, Nat.reduceLT, Int.reduceLT, Int.reduceLE, Int.reduceEq, Int.reduceNeg, Nat.reduceMul, Int.reduceAdd, Int.reduceToNat, *]))
    | (with_reducible refine branch_f ?_; (try simp (maxSteps := 1000000) (disch := omega) only [push_cast, go_sem, Nat.reduceEqDiff, ↓reduceIte, reduceCtorEq, Nat.reduceAdd, Nat.reduceSub, Nat.reduceLeDiff, Nat.reduceLT, Int.reduceLT, Int.reduceLE, Int.reduceEq, Int.reduceNeg, Nat.reduceMul, Int.reduceAdd, Int.reduceToNat, *]))
    | (with_reducible refine cond_split ?_ ?_)
    | (with_reducible refine guard_split ?_ ?_)
    | ((with_reducible refine drw_open 0 ?_); simp (maxSteps := 1000000) (disch := omega) only [push_cast, go_sem, Nat.reduceEqDiff, ↓reduceIte, reduceCtorEq, Nat.reduceAdd, Nat.reduceSub, Nat.reduceLeDiff, Nat.reduceLT, Int.reduceLT, Int.reduceLE, Int.reduceEq, Int.reduceNeg, Nat.reduceMul, Int.reduceAdd, Int.reduceToNat, *]; (with_reducible refine drw_id ?_))
    | ((with_reducible refine drw_open 1 ?_); simp (maxSteps := 1000000) (disch := omega) only [push_cast, go_sem, Nat.reduceEqDiff, ↓reduceIte, reduceCtorEq, Nat.reduceAdd, Nat.reduceSub, Nat.reduceLeDiff, Nat.reduceLT, Int.reduceLT, Int.reduceLE, Int.reduceEq, Int.reduceNeg, Nat.reduceMul, Int.reduceAdd, Int.reduceToNat, *]; (with_reducible refine drw_id ?_))
    | ((with_reducible refine drw_open 2 ?_); simp (maxSteps := 1000000) (disch := omega) only [push_cast, go_sem, Nat.reduceEqDiff, ↓reduceIte, reduceCtorEq, Nat.reduceAdd, Nat.reduceSub, Nat.reduceLeDiff, Nat.reduceLT, Int.reduceLT, Int.reduceLE, Int.reduceEq, Int.reduceNeg, Nat.reduceMul, Int.reduceAdd, Int.reduceToNat, *]; (with_reducible refine drw_id ?_))
    | ((with_reducible refine drw_intro ?_ ?_); (focus decide +kernel); (try simp (maxSteps := 1000000) (disch := omega) only [push_cast, go_sem, Nat.reduceEqDiff, ↓reduceIte, reduceCtorEq, Nat.reduceAdd, Nat.reduceSub, Nat.reduceLeDiff, Nat.reduceLT, Int.reduceLT, Int.reduceLE, Int.reduceEq, Int.reduceNeg, Nat.reduceMul, Int.reduceAdd, Int.reduceToNat, *]))
    | (with_reducible refine still_split ?_ ?_)
    | ((with_reducible refine call_by2 [] (fromc_is (nx := nx) (l := l) (k := k) (m := ((i : Int) + (j : Int)) / 2) ((i + j) / 2) (by omega) (by omega)) (by first | (refine ⟨?_, ?_, ?_, ?_⟩ <;> ((try simp (maxSteps := 1000000) (disch := omega) only [push_cast, go_sem, Nat.reduceEqDiff, ↓reduceIte, reduceCtorEq, Nat.reduceAdd, Nat.reduceSub, Nat.reduceLeDiff, Nat.reduceLT, Int.reduceLT, Int.reduceLE, Int.reduceEq, Int.reduceNeg, Nat.reduceMul, Int.reduceAdd, Int.reduceToNat, *]); (try rfl); (try omega); done)) | fail) ?_) <;> (try simp (maxSteps := 1000000) (disch := omega) only [push_cast, go_sem, Nat.reduceEqDiff, ↓reduceIte, reduceCtorEq, Nat.reduceAdd, Nat.reduceSub, Nat.reduceLeDiff, Nat.reduceLT, Int.reduceLT, Int.reduceLE, Int.reduceEq, Int.reduceNeg, Nat.reduceMul, Int.reduceAdd, Int.reduceToNat, *]))
    | omega)
  · rename_i hlt
    refine loop_end ((i + j) / 2 + 1, j) _ (by omega) ⟨by dsimp only; omega, hj, fun t ht h => ?_, h2⟩ (by dsimp only; omega) (by simp (maxSteps := 1000000) (disch := omega) only [push_cast, go_sem, Nat.reduceEqDiff, ↓reduceIte, reduceCtorEq, Nat.reduceAdd, Nat.reduceSub, Nat.reduceLeDiff, Nat.reduceLT, Int.reduceLT, Int.reduceLE, Int.reduceEq, Int.reduceNeg, Nat.reduceMul, Int.reduceAdd, Int.reduceToNat, *]) (by simp (maxSteps := 1000000) (disch := omega) only [push_cast, go_sem, Nat.reduceEqDiff, ↓reduceIte, reduceCtorEq, Nat.reduceAdd, Nat.reduceSub, Nat.reduceLeDiff, Nat.reduceLT, Int.reduceLT, Int.reduceLE, Int.reduceEq, Int.reduceNeg, Nat.reduceMul, Int.reduceAdd, Int.reduceToNat, *]) (Nat.le_refl _)
    by_cases he : t = (i + j) / 2
    · subst he; exact hx
    · cases hb : Op.bytesLess l[t].key k with
      | true => rfl
      | false =>
        have hp := List.pairwise_iff_getElem.1 hs t ((i + j) / 2) ht (by omega) (by dsimp only at h; omega)
        have := bl_trans hp hx
        rw [hb] at this; cases this
  · rename_i hlt
    refine loop_end (i, (i + j) / 2) _ (by omega) ⟨by dsimp only; omega, by dsimp only; omega, h1, fun t ht h => ?_⟩ (by dsimp only; omega) (by simp (maxSteps := 1000000) (disch := omega) only [push_cast, go_sem, Nat.reduceEqDiff, ↓reduceIte, reduceCtorEq, Nat.reduceAdd, Nat.reduceSub, Nat.reduceLeDiff, Nat.reduceLT, Int.reduceLT, Int.reduceLE, Int.reduceEq, Int.reduceNeg, Nat.reduceMul, Int.reduceAdd, Int.reduceToNat, *]) (by simp (maxSteps := 1000000) (disch := omega) only [push_cast, go_sem, Nat.reduceEqDiff, ↓reduceIte, reduceCtorEq, Nat.reduceAdd, Nat.reduceSub, Nat.reduceLeDiff, Nat.reduceLT, Int.reduceLT, Int.reduceLE, Int.reduceEq, Int.reduceNeg, Nat.reduceMul, Int.reduceAdd, Int.reduceToNat, *]) (Nat.le_refl _)
    have hx : Op.bytesLess l[(i + j) / 2].key k = false := by simpa using hx
    by_cases he : t = (i + j) / 2
    · subst he; exact hx
    · cases hb : Op.bytesLess l[t].key k with
      | false => rfl
      | true =>
        have hp := List.pairwise_iff_getElem.1 hs ((i + j) / 2) t (by omega) ht (by dsimp only at h; omega)
        have := bl_trans hp hb
        rw [hx] at this; cases this
  · have : i = j := by omega
    subst this
    rw [lb_unique hs (i := i) (by omega) h1 h2]
end Go.Ev
