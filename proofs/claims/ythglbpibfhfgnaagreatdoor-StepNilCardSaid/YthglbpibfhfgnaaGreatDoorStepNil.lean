/-
StepNil answers true for every key and every number, whatever they are, and leaves its arguments as they are. No condition.
-/
import Derived.Test.YthglbpibfhfgnaaGreatDoorBase22
import Derived.Test.YthglbpibfhfgnaaGreatDoorCards
import Derived.Test.YthglbpibfhfgnaaGreatDoorTie
namespace Go.Proofs.YthglbpibfhfgnaaGreatDoor.stepNil
open Go.ChangeShapes Go.WideShapes Go.ChangeAt Go.RowKit Go.Eb Go.ChangeMaps
set_option linter.unusedVariables false
set_option maxRecDepth 100000

theorem short : runB Tryz.prog kn 100 7 [.anys 0 100, .undef] .e 0 isTrue = some () := by kernel_rfl
theorem long : runB Tryz.prog kn 100 7 [.anys 101 140737488355328, .undef] .e 0 isTrue = some () := by kernel_rfl
theorem globs {W : World} (hL : laidMetH Tryz.prog Rows.stepNilRow.laid W) : GlobOk Tryz.prog W := fun k hk => by
  have hL' : laidMet Tryz.prog Rows.stepNilRow.laid W := hL
  rcases glob23 k hk with rfl | rfl
  · exact glob_of (t := 278) (Lib.laidMet.reads hL' (.tail _ (.tail _ (.tail _ (.tail _ (.tail _ (.head _))))))) (by kernel_rfl) (by kernel_rfl) (by kernel_rfl)
  · exact glob_of (t := 278) (Lib.laidMet.reads hL' (.tail _ (.tail _ (.tail _ (.tail _ (.head _)))))) (by kernel_rfl) (by kernel_rfl) (by kernel_rfl)

theorem good (W : World) (hG : GlobOk Tryz.prog W) (s : ByteArray) (n : Int) (hs : s.size ≤ 140737488355328) : Calls Tryz.prog 7 #[.string s, .int .i64 n] W (Row.Good W) := by
  have key : ∀ lo hi, lo ≤ s.size → s.size ≤ hi → runB Tryz.prog kn 100 7 [.anys lo hi, .undef] .e 0 isTrue = some () → Calls Tryz.prog 7 #[.string s, .int .i64 n] W (Row.Good W) := fun lo hi h1 h2 h =>
    (closed_call known h W hG (cargs := #[.string s, .int .i64 n]) (.cons (.anys h1 h2 hs) (.cons (.undef rfl) .nil))).mono fun e w' ⟨ha, he⟩ => ⟨he, ha.size, ha.old, ha.os, ha.output⟩
  by_cases h : s.size ≤ 100
  · exact key 0 100 (by omega) h short
  · exact key 101 _ (by omega) hs long

theorem witness (os : Os) {H : Type} (enc : TypeId × Value → H) :
    (OpenSpec.ofChange Rows.stepNilSpec).preRow enc Tryz.prog Tryz.f7 Rows.stepNilRow.domain false Rows.stepNilRow.laid ((laidWorld os).forCall (fun _ _ => 0) ⟨#[], #[.string ⟨#[]⟩, .int .i64 0], []⟩).memory #[.string ⟨#[]⟩, .int .i64 0] := by
  have hw : (DataW.whole enc Tryz.prog ((laidWorld os).forCall (fun _ _ => 0) ⟨#[], #[.string ⟨#[]⟩, .int .i64 0], []⟩).memory Tryz.f7.params.toList Rows.stepNilSpec.vars false #[Value.string ⟨#[]⟩, .int .i64 0].toList 8).map (fun x => (x.1, x.2.1)) =
      some ([.lit (.string []), .lit (.int .i64 0)], []) := by kernel_rfl
  obtain ⟨⟨x1, x2, x3⟩, hx, hx1⟩ := Option.map_eq_some_iff.1 hw
  simp only [Prod.mk.injEq] at hx1
  obtain ⟨rfl, rfl⟩ := hx1
  exact OpenSpec.preRow_of_cond 8 hx (by kernel_rfl) (fun k hk => by cases hk) (by kernel_rfl) (laid_met os _)

theorem lifted (os : Os) (started : os.Started) (H : Type) (enc : TypeId × Value → H) (F : Stop.Interp) :
    ReturnsInHanded {} Tryz.checked os 7 .any ((OpenSpec.ofChange Rows.stepNilSpec).preRow enc Tryz.prog Tryz.f7 Rows.stepNilRow.domain false Rows.stepNilRow.laid) (((OpenSpec.ofChange Rows.stepNilSpec).at F).post enc Tryz.prog Tryz.f7 false true false false) := by
  refine returnsInHanded_of_row (C := Tryz.checked) (s := OpenSpec.ofChange Rows.stepNilSpec) own started (by kernel_rfl) Tryz.func7
    (witness_row_atRef (enc := enc) (C := Tryz.checked) false (laidWorld os) #[.string ⟨#[]⟩, .int .i64 0] rfl (by kernel_rfl) (by kernel_rfl) (by kernel_rfl) (witness os enc)) ?_
  intro W base args ds gs before hval hW _ _ hsz hL _ _
  have hpost := fun e W' => Row.law_post (e := e) (W' := W') (apart := false) (fresh := true) (handsOn := false) (again := false) (tb := 4) (s := Rows.stepNilSpec) laidOut rowed (slices_full_of _ full) (of_decide_eq_true (by kernel_rfl)) rfl (by kernel_rfl) (by kernel_rfl) (fun ds h => by
    match ds, h with
    | [a, b], _ => rfl) hW
  obtain ⟨p, q, hA0, _⟩ := hW
  replace hsz : (DataW.weightsEach Tryz.prog ([9, 3] ++ _) (ds ++ gs)).all (· ≤ reachBytes) = true := hsz
  have hA : DataW.TrodAll enc Tryz.prog W 0 (fun _ => true) true [9, 3] args.toList ds p := hA0
  replace hval : ∀ (j : Nat) t v, (#[9, 3] : Array TypeId)[j]? = some t → args[j]? = some v → Value.okWide Tryz.prog W .any base t v := hval
  obtain ⟨v0, vs0, d0, ds0, p0, q0, hargs, rfl, rfl, h0, r0⟩ := trodAll_cons hA
  obtain ⟨v1, vs1, d1, ds1, p1, q1, rfl, rfl, rfl, h1, r1⟩ := trodAll_cons r0
  obtain ⟨rfl, rfl, rfl⟩ := trodAll_nil r1
  obtain rfl : args = #[v0, v1] := by cases args; simp_all
  obtain ⟨s, rfl, rfl, _, _⟩ := open_string Tryz.underlying9 (hval 0 9 v0 rfl rfl) h0
  have hs : s.size ≤ 140737488355328 := by
    have h1 := sized_string hsz (j := 0) (t := 9) rfl rfl
    have h2 := reachBytes_lt
    rw [Array.length_toList] at h1
    have h3 : s.data.size = s.size := rfl
    omega
  obtain ⟨n, rfl, _, _, _⟩ := open_int Tryz.underlying3 (hval 1 3 v1 rfl rfl) h1
  exact Calls.mono (good W (globs hL) s n hs) hpost

theorem said : Rows.StepNilSaid :=
  OpenClaim.holds_of_cond 7 Tryz.f7 rfl rfl rfl rfl rfl rfl rfl ⟨rfl, rfl, rfl, rfl, rfl⟩ rfl rfl rfl rfl rfl (by kernel_rfl) Tryz.func7 (by kernel_rfl)
    (of_decide_eq_true (by kernel_rfl)) (by unfold Func.isWrapper; first | (rw [if_pos (by decide +kernel)]; kernel_rfl) | (rw [if_neg (by decide +kernel)]; exact ⟨rfl, rfl⟩))
    (fun os started H enc _ F => by rw [OpenClaim.pre_eq_preRow]; exact lifted os started H enc F)
theorem plain (f : FuncId) (fn : Func) (hf : Tryz.pinned.checked.prog.funcNamed "towpath/towpathlaw22.StepNil" = some f) (hfn : Tryz.pinned.checked.prog.funcs[f]? = some fn) :
    true = Tryz.pinned.checked.prog.looks [] ∧ ∀ (j : Nat) t, fn.params[j]? = some t → Tryz.pinned.checked.prog.wantsStandIn t = false := by
  obtain rfl : f = 7 := Option.some.inj ((show Tryz.prog.funcNamed "towpath/towpathlaw22.StepNil" = some 7 by kernel_rfl).symm.trans hf) |>.symm
  obtain rfl : fn = Tryz.f7 := (Option.some.inj (Tryz.func7.symm.trans hfn)).symm
  refine ⟨by kernel_rfl, fun j t ht => ?_⟩
  replace ht : (#[9, 3] : Array TypeId)[j]? = some t := ht
  have hm := Array.mem_of_getElem? ht
  simp only [List.mem_toArray, List.mem_cons, List.mem_nil_iff, or_false] at hm
  rcases hm with rfl | rfl
  · exact (show Tryz.prog.wantsStandIn 9 = false by kernel_rfl)
  · exact (show Tryz.prog.wantsStandIn 3 = false by kernel_rfl)
theorem card : Rows.StepNilCardSaid :=
  Claim7.holds_tied_plain_at .later [] _ _ _ _ said (fun _ h => by cases h) (by kernel_rfl) (fun _ h => by cases h) stepNil_row_tie rfl ⟨rfl, rfl⟩ (by kernel_rfl) rfl plain (by kernel_rfl)
#print axioms card
end Go.Proofs.YthglbpibfhfgnaaGreatDoor.stepNil
