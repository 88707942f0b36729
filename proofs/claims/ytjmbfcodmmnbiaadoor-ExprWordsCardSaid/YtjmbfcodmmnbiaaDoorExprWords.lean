/-
ExprWords answers true for every number and every text, whatever they are, and leaves its arguments as they are. No condition.
-/
import Derived.Test.YtjmbfcodmmnbiaaDoorCards
import Derived.Test.YtjmbfcodmmnbiaaDoorTie
import Derived.Test.YtjmbfcodmmnbiaaDoorT5
namespace Go.Proofs.YtjmbfcodmmnbiaaDoor.exprWords
open Go.ChangeShapes Go.WideShapes Go.ChangeAt Go.RowKit Go.Eb Go.ChangeMaps
set_option linter.unusedVariables false
set_option maxRecDepth 100000

theorem globs {W : World} (hL : laidMetH Tryd.prog Rows.exprWordsRow.laid W) : GlobOk Tryd.prog W := fun k hk => by
  have hL' : laidMet Tryd.prog Rows.exprWordsRow.laid W := hL
  rcases glob23 k hk with rfl | rfl
  · exact glob_of (t := 88) (Lib.laidMet.reads hL' (.tail _ (.tail _ (.tail _ (.tail _ (.tail _ (.head _))))))) (by kernel_rfl) (by kernel_rfl) (by kernel_rfl)
  · exact glob_of (t := 88) (Lib.laidMet.reads hL' (.tail _ (.tail _ (.tail _ (.tail _ (.head _)))))) (by kernel_rfl) (by kernel_rfl) (by kernel_rfl)

theorem good (W : World) (hG : GlobOk Tryd.prog W) (n : Int) (s : ByteArray) (hs : s.size ≤ 140737488355328) : Calls Tryd.prog 4 #[.int .i64 n, .string s] W (Row.Good W) := by
  have h := Go.Ev.exprWords_spec n s.data.toList (by simpa using hs)
  rw [← Go.Ev.ofL_of] at h
  exact Go.Ev.row_calls h W (.cons (l := []) (m := []) (.int _ n) (.cons (l := []) (m := []) (.str s (by unfold Go.Ev.MX; omega)) .nil)) (Go.Ev.gk_of hG)

theorem witness (os : Os) {H : Type} (enc : TypeId × Value → H) :
    (OpenSpec.ofChange Rows.exprWordsSpec).preRow enc Tryd.prog Tryd.f4 Rows.exprWordsRow.domain false Rows.exprWordsRow.laid ((laidWorld os).forCall (fun _ _ => 0) ⟨#[], #[.int .i64 0, .string ⟨#[]⟩], []⟩).memory #[.int .i64 0, .string ⟨#[]⟩] := by
  have hw : (DataW.whole enc Tryd.prog ((laidWorld os).forCall (fun _ _ => 0) ⟨#[], #[.int .i64 0, .string ⟨#[]⟩], []⟩).memory Tryd.f4.params.toList Rows.exprWordsSpec.vars false #[Value.int .i64 0, .string ⟨#[]⟩].toList 8).map (fun x => (x.1, x.2.1)) =
      some ([.lit (.int .i64 0), .lit (.string [])], []) := by kernel_rfl
  obtain ⟨⟨x1, x2, x3⟩, hx, hx1⟩ := Option.map_eq_some_iff.1 hw
  simp only [Prod.mk.injEq] at hx1
  obtain ⟨rfl, rfl⟩ := hx1
  exact OpenSpec.preRow_of_cond 8 hx (by kernel_rfl) (fun k hk => by cases hk) (by kernel_rfl) (laid_met os _)

theorem lifted (os : Os) (started : os.Started) (H : Type) (enc : TypeId × Value → H) (F : Stop.Interp) :
    ReturnsInHanded {} Tryd.checked os 4 .any ((OpenSpec.ofChange Rows.exprWordsSpec).preRow enc Tryd.prog Tryd.f4 Rows.exprWordsRow.domain false Rows.exprWordsRow.laid) (((OpenSpec.ofChange Rows.exprWordsSpec).at F).post enc Tryd.prog Tryd.f4 false true false false) := by
  refine returnsInHanded_of_row (C := Tryd.checked) (s := OpenSpec.ofChange Rows.exprWordsSpec) own started (by kernel_rfl) Tryd.func4
    (witness_row_atRef (enc := enc) (C := Tryd.checked) false (laidWorld os) #[.int .i64 0, .string ⟨#[]⟩] rfl (by kernel_rfl) (by kernel_rfl) (by kernel_rfl) (witness os enc)) ?_
  intro W base args ds gs before hval hW _ _ hsz hL _ _
  have hpost := fun e W' => Row.law_post (e := e) (W' := W') (apart := false) (fresh := true) (handsOn := false) (again := false) (tb := 4) (s := Rows.exprWordsSpec) laidOut rowed (slices_full_of _ full) (of_decide_eq_true (by kernel_rfl)) rfl (by kernel_rfl) (by kernel_rfl) (fun ds h => by
    match ds, h with
    | [a, b], _ => rfl) hW
  obtain ⟨p, q, hA0, _⟩ := hW
  replace hsz : (DataW.weightsEach Tryd.prog ([3, 9] ++ _) (ds ++ gs)).all (· ≤ reachBytes) = true := hsz
  have hA : DataW.TrodAll enc Tryd.prog W 0 (fun _ => true) true [3, 9] args.toList ds p := hA0
  replace hval : ∀ (j : Nat) t v, (#[3, 9] : Array TypeId)[j]? = some t → args[j]? = some v → Value.okWide Tryd.prog W .any base t v := hval
  obtain ⟨v0, vs0, d0, ds0, p0, q0, hargs, rfl, rfl, h0, r0⟩ := trodAll_cons hA
  obtain ⟨v1, vs1, d1, ds1, p1, q1, rfl, rfl, rfl, h1, r1⟩ := trodAll_cons r0
  obtain ⟨rfl, rfl, rfl⟩ := trodAll_nil r1
  obtain rfl : args = #[v0, v1] := by cases args; simp_all
  obtain ⟨n, rfl, _, _, _⟩ := open_int Tryd.underlying3 (hval 0 3 v0 rfl rfl) h0
  obtain ⟨s, rfl, rfl, _, _⟩ := open_string Tryd.underlying9 (hval 1 9 v1 rfl rfl) h1
  have hs : s.size ≤ 140737488355328 := by
    have h1 := sized_string hsz (j := 1) (t := 9) rfl rfl
    have h2 := reachBytes_lt
    rw [Array.length_toList] at h1
    have h3 : s.data.size = s.size := rfl
    omega
  exact Calls.mono (good W (globs hL) n s hs) hpost

theorem said : Rows.ExprWordsSaid :=
  OpenClaim.holds_of_cond 4 Tryd.f4 rfl rfl rfl rfl rfl rfl rfl ⟨rfl, rfl, rfl, rfl, rfl⟩ rfl rfl rfl rfl rfl (by kernel_rfl) Tryd.func4 (by kernel_rfl)
    (of_decide_eq_true (by kernel_rfl)) (by unfold Func.isWrapper; first | (rw [if_pos (by decide +kernel)]; kernel_rfl) | (rw [if_neg (by decide +kernel)]; exact ⟨rfl, rfl⟩))
    (fun os started H enc _ F => by rw [OpenClaim.pre_eq_preRow]; exact lifted os started H enc F)
theorem plain (f : FuncId) (fn : Func) (hf : Tryd.pinned.checked.prog.funcNamed "towpath/towpathlaw19.ExprWords" = some f) (hfn : Tryd.pinned.checked.prog.funcs[f]? = some fn) :
    true = Tryd.pinned.checked.prog.looks [] ∧ ∀ (j : Nat) t, fn.params[j]? = some t → Tryd.pinned.checked.prog.wantsStandIn t = false := by
  obtain rfl : f = 4 := Option.some.inj ((show Tryd.prog.funcNamed "towpath/towpathlaw19.ExprWords" = some 4 by kernel_rfl).symm.trans hf) |>.symm
  obtain rfl : fn = Tryd.f4 := (Option.some.inj (Tryd.func4.symm.trans hfn)).symm
  refine ⟨by kernel_rfl, fun j t ht => ?_⟩
  replace ht : (#[3, 9] : Array TypeId)[j]? = some t := ht
  have hm := Array.mem_of_getElem? ht
  simp only [List.mem_toArray, List.mem_cons, List.mem_nil_iff, or_false] at hm
  rcases hm with rfl | rfl
  · exact (show Tryd.prog.wantsStandIn 3 = false by kernel_rfl)
  · exact (show Tryd.prog.wantsStandIn 9 = false by kernel_rfl)
theorem card : Rows.ExprWordsCardSaid :=
  Claim7.holds_tied_plain_at .later [] _ _ _ _ said (fun _ h => by cases h) (by kernel_rfl) (fun _ h => by cases h) exprWords_row_tie rfl ⟨rfl, rfl⟩ (by kernel_rfl) rfl plain (by kernel_rfl)
#print axioms card
end Go.Proofs.YtjmbfcodmmnbiaaDoor.exprWords
