/-
ExprJoins answers true for any two programs, any operation and any input, whatever they are, and leaves its arguments as they are. No condition.
-/
import Derived.Test.YtjmbfcodmmnbiaaDoorCards
import Derived.Test.YtjmbfcodmmnbiaaDoorTie
import Derived.Test.YtjmbfcodmmnbiaaDoorT7
namespace Go.Proofs.YtjmbfcodmmnbiaaDoor.exprJoins
open Go.ChangeShapes Go.WideShapes Go.ChangeAt Go.RowKit Go.ChangeMaps Go.Ev
set_option linter.unusedVariables false
set_option maxRecDepth 100000

theorem globs {W : World} (hL : laidMetH Tryd.prog Rows.exprJoinsRow.laid W) (hsh : W.ShapedOpen Tryd.prog) : Gk Tryd.prog (rd W) := by
  have hL' : laidMet Tryd.prog Rows.exprJoinsRow.laid W := hL
  refine gk_of (fun k hk => ?_) (fun k hk => ?_) (fun k hk => ?_)
  · rcases gok23 k hk with rfl | rfl
    · exact iface_reads (t := 88) (Lib.laidMet.reads hL' (.tail _ (.tail _ (.tail _ (.tail _ (.tail _ (.head _))))))) (by kernel_rfl) (by kernel_rfl) (by kernel_rfl)
    · exact iface_reads (t := 88) (Lib.laidMet.reads hL' (.tail _ (.tail _ (.tail _ (.tail _ (.head _)))))) (by kernel_rfl) (by kernel_rfl) (by kernel_rfl)
  · obtain rfl := gmx0 k hk
    exact cell_of_shapedOpen_int (t := 3) (zero := #[.int .i64 0]) hsh (of_decide_eq_true (by kernel_rfl)) (by kernel_rfl) rfl (by kernel_rfl) (by kernel_rfl) Tryd.underlying3
  · obtain rfl := gtb1 k hk
    have h := Lib.laidMet.reads hL' (.tail _ (.tail _ (.head _)))
    rw [pow10_is] at h
    obtain ⟨cs, ty, fr, h1, h2⟩ := tab_reads (t := 129) (e := 107) (m := 20) h (by kernel_rfl) (by kernel_rfl) (by kernel_rfl) (by kernel_rfl) (by kernel_rfl) (by kernel_rfl)
    exact ⟨cs, ty, fr, h1, h2.trans tens_is⟩

theorem witness (os : Os) {H : Type} (enc : TypeId × Value → H) :
    (OpenSpec.ofChange Rows.exprJoinsSpec).preRow enc Tryd.prog Tryd.f5 Rows.exprJoinsRow.domain false Rows.exprJoinsRow.laid ((laidWorld os).forCall (fun _ _ => 0) ⟨#[], #[.slice none 0 0, .slice none 0 0, .int .i64 0, .agg #[.string ⟨#[]⟩, .int .i64 0, .int .i64 0, .string ⟨#[]⟩, .int .i64 0, .int .i64 0, .int .i64 0, .int .i64 0, .string ⟨#[]⟩, .int .i64 0, .int .i64 0, .string ⟨#[]⟩]], []⟩).memory #[.slice none 0 0, .slice none 0 0, .int .i64 0, .agg #[.string ⟨#[]⟩, .int .i64 0, .int .i64 0, .string ⟨#[]⟩, .int .i64 0, .int .i64 0, .int .i64 0, .int .i64 0, .string ⟨#[]⟩, .int .i64 0, .int .i64 0, .string ⟨#[]⟩]] := by
  have hw : (DataW.whole enc Tryd.prog ((laidWorld os).forCall (fun _ _ => 0) ⟨#[], #[.slice none 0 0, .slice none 0 0, .int .i64 0, .agg #[.string ⟨#[]⟩, .int .i64 0, .int .i64 0, .string ⟨#[]⟩, .int .i64 0, .int .i64 0, .int .i64 0, .int .i64 0, .string ⟨#[]⟩, .int .i64 0, .int .i64 0, .string ⟨#[]⟩]], []⟩).memory Tryd.f5.params.toList Rows.exprJoinsSpec.vars false (#[.slice none 0 0, .slice none 0 0, .int .i64 0, .agg #[.string ⟨#[]⟩, .int .i64 0, .int .i64 0, .string ⟨#[]⟩, .int .i64 0, .int .i64 0, .int .i64 0, .int .i64 0, .string ⟨#[]⟩, .int .i64 0, .int .i64 0, .string ⟨#[]⟩]] : Array Value).toList 8).map (fun x => (x.1, x.2.1)) =
      some ([.nil, .nil, .lit (.int .i64 0), .agg [.lit (.string []), .agg [.lit (.int .i64 0), .lit (.int .i64 0), .lit (.string [])], .lit (.int .i64 0), .lit (.int .i64 0), .agg [.lit (.int .i64 0), .lit (.int .i64 0), .lit (.string [])], .agg [.lit (.int .i64 0), .lit (.int .i64 0), .lit (.string [])]]], []) := by kernel_rfl
  obtain ⟨⟨x1, x2, x3⟩, hx, hx1⟩ := Option.map_eq_some_iff.1 hw
  simp only [Prod.mk.injEq] at hx1
  obtain ⟨rfl, rfl⟩ := hx1
  exact OpenSpec.preRow_of_cond 8 hx (by kernel_rfl) (fun k hk => by cases hk) (by kernel_rfl) (laid_met os _)

theorem lifted (os : Os) (started : os.Started) (H : Type) (enc : TypeId × Value → H) (F : Stop.Interp) :
    ReturnsInHanded {} Tryd.checked os 5 .any ((OpenSpec.ofChange Rows.exprJoinsSpec).preRow enc Tryd.prog Tryd.f5 Rows.exprJoinsRow.domain false Rows.exprJoinsRow.laid) (((OpenSpec.ofChange Rows.exprJoinsSpec).at F).post enc Tryd.prog Tryd.f5 false true false false) := by
  refine returnsInHanded_of_row (C := Tryd.checked) (s := OpenSpec.ofChange Rows.exprJoinsSpec) own started (by kernel_rfl) Tryd.func5
    (witness_row_atRef (enc := enc) (C := Tryd.checked) false (laidWorld os) #[.slice none 0 0, .slice none 0 0, .int .i64 0, .agg #[.string ⟨#[]⟩, .int .i64 0, .int .i64 0, .string ⟨#[]⟩, .int .i64 0, .int .i64 0, .int .i64 0, .int .i64 0, .string ⟨#[]⟩, .int .i64 0, .int .i64 0, .string ⟨#[]⟩]] rfl (by kernel_rfl) (by kernel_rfl) (by kernel_rfl) (witness os enc)) ?_
  intro W base args ds gs before hval hW _ _ hsz hL hsh _
  have hpost := fun e W' => Row.law_post (e := e) (W' := W') (apart := false) (fresh := true) (handsOn := false) (again := false) (tb := 4) (s := Rows.exprJoinsSpec) laidOut rowed (slices_full_of _ full) (of_decide_eq_true (by kernel_rfl)) rfl (by kernel_rfl) (by kernel_rfl) (fun ds h => by
    match ds, h with
    | [z0, z1, z2, z3], _ => rfl) hW
  obtain ⟨p, q, hA0, _⟩ := hW
  replace hsz : (DataW.weightsEach Tryd.prog ([22, 22, 3, 26] ++ _) (ds ++ gs)).all (· ≤ reachBytes) = true := hsz
  have hA : DataW.TrodAll enc Tryd.prog W 0 (fun _ => true) true [22, 22, 3, 26] args.toList ds p := hA0
  replace hval : ∀ (j : Nat) t v, (#[22, 22, 3, 26] : Array TypeId)[j]? = some t → args[j]? = some v → Value.okWide Tryd.prog W .any base t v := hval
  obtain ⟨v0, vs0, d0, ds0, p0, q0, hargs, rfl, rfl, h0, r0⟩ := trodAll_cons hA
  obtain ⟨v1, vs1, d1, ds1, p1, q1, rfl, rfl, rfl, h1, r1⟩ := trodAll_cons r0
  obtain ⟨v2, vs2, d2, ds2, p2, q2, rfl, rfl, rfl, h2, r2⟩ := trodAll_cons r1
  obtain ⟨v3, vs3, d3, ds3, p3, q3, rfl, rfl, rfl, h3, r3⟩ := trodAll_cons r2
  obtain ⟨rfl, rfl, rfl⟩ := trodAll_nil r3
  obtain rfl : args = #[v0, v1, v2, v3] := by cases args; simp_all
  have hw : ∀ (j : Nat) (t : TypeId) (d : DataW H), ([22, 22, 3, 26] : List TypeId)[j]? = some t → [d0, d1, d2, d3][j]? = some d → ∀ m ∈ d.weights Tryd.prog t, m ≤ reachBytes := fun j t d ht hd m hm => by
    have := List.all_eq_true.1 hsz m (DataW.weights_mem_each (j := j) (t := t) (d := d) (by rw [List.getElem?_append_left (List.getElem?_eq_some_iff.1 ht).1]; exact ht) (by rw [List.getElem?_append_left (List.getElem?_eq_some_iff.1 hd).1]; exact hd) m hm)
    simpa using this
  obtain ⟨a0, ra0, ⟨g0, _⟩ | ⟨_, f0⟩⟩ := arg_rep (k := 12) (s := [.slice 3 true [.int .i64, .int .i64, .str]]) (by kernel_rfl) (hval 0 22 v0 rfl rfl) h0 (hw 0 22 d0 rfl rfl)
  · cases g0
  obtain ⟨els0, rfl, w0, hels0⟩ := fits_slice f0
  obtain ⟨x0, rfl, hp0⟩ := els_map (enc := encP) (p := fun o => inR o.n) fun e he => by
    obtain ⟨cs, rfl, hc⟩ := hels0 e he
    exact fits_op hc
  obtain ⟨a1, ra1, ⟨g1, _⟩ | ⟨_, f1⟩⟩ := arg_rep (k := 12) (s := [.slice 3 true [.int .i64, .int .i64, .str]]) (by kernel_rfl) (hval 1 22 v1 rfl rfl) h1 (hw 1 22 d1 rfl rfl)
  · cases g1
  obtain ⟨els1, rfl, w1, hels1⟩ := fits_slice f1
  obtain ⟨x1, rfl, hp1⟩ := els_map (enc := encP) (p := fun o => inR o.n) fun e he => by
    obtain ⟨cs, rfl, hc⟩ := hels1 e he
    exact fits_op hc
  obtain ⟨a2, ra2, ⟨g2, _⟩ | ⟨_, f2⟩⟩ := arg_rep (k := 12) (s := [.int .i64]) (by kernel_rfl) (hval 2 3 v2 rfl rfl) h2 (hw 2 3 d2 rfl rfl)
  · cases g2
  obtain ⟨x2, rfl, w2⟩ := fits_int f2
  obtain ⟨a3, ra3, ⟨g3, cs3, rfl, f3⟩ | ⟨g3, f3⟩⟩ := arg_rep (k := 12) (s := [.str, .int .i64, .int .i64, .str, .int .i64, .int .i64, .int .i64, .int .i64, .str, .int .i64, .int .i64, .str]) (by kernel_rfl) (hval 3 26 v3 rfl rfl) h3 (hw 3 26 d3 rfl rfl)
  rotate_left
  · cases g3
  obtain ⟨x3, hx3, hp3⟩ := fits_in f3
  rw [hx3] at ra3
  exact Calls.mono (row_calls (joins_spec x0 x1 x2 x3 hp0 hp1 hp3.v hp3.o hp3.s hp3.t hp3.n) W (.cons (l := []) (m := []) ra0 (.cons (l := []) (m := []) ra1 (.cons (l := []) (m := []) ra2 (.cons (l := []) (m := []) ra3 .nil)))) (globs hL hsh)) hpost

theorem said : Rows.ExprJoinsSaid :=
  OpenClaim.holds_of_cond 5 Tryd.f5 rfl rfl rfl rfl rfl rfl rfl ⟨rfl, rfl, rfl, rfl, rfl⟩ rfl rfl rfl rfl rfl (by kernel_rfl) Tryd.func5 (by kernel_rfl)
    (of_decide_eq_true (by kernel_rfl)) (by unfold Func.isWrapper; first | (rw [if_pos (by decide +kernel)]; kernel_rfl) | (rw [if_neg (by decide +kernel)]; exact ⟨rfl, rfl⟩))
    (fun os started H enc _ F => by rw [OpenClaim.pre_eq_preRow]; exact lifted os started H enc F)
theorem plain (f : FuncId) (fn : Func) (hf : Tryd.pinned.checked.prog.funcNamed Rows.exprJoinsRow.func = some f) (hfn : Tryd.pinned.checked.prog.funcs[f]? = some fn) :
    true = Tryd.pinned.checked.prog.looks [] ∧ ∀ (j : Nat) t, fn.params[j]? = some t → Tryd.pinned.checked.prog.wantsStandIn t = false := by
  obtain rfl : f = 5 := Option.some.inj ((show Tryd.prog.funcNamed Rows.exprJoinsRow.func = some 5 by kernel_rfl).symm.trans hf) |>.symm
  obtain rfl : fn = Tryd.f5 := (Option.some.inj (Tryd.func5.symm.trans hfn)).symm
  refine ⟨by kernel_rfl, fun j t ht => ?_⟩
  replace ht : (#[22, 22, 3, 26] : Array TypeId)[j]? = some t := ht
  have hm := Array.mem_of_getElem? ht
  simp only [List.mem_toArray, List.mem_cons, List.mem_nil_iff, or_false] at hm
  rcases hm with rfl | rfl | rfl | rfl
  · exact (show Tryd.prog.wantsStandIn 22 = false by kernel_rfl)
  · exact (show Tryd.prog.wantsStandIn 22 = false by kernel_rfl)
  · exact (show Tryd.prog.wantsStandIn 3 = false by kernel_rfl)
  · exact (show Tryd.prog.wantsStandIn 26 = false by kernel_rfl)
theorem card : Rows.ExprJoinsCardSaid :=
  Claim7.holds_tied_plain_at .later [] _ _ _ _ said (fun _ h => by cases h) (by kernel_rfl) (fun _ h => by cases h) exprJoins_row_tie rfl ⟨rfl, rfl⟩ (by kernel_rfl) rfl plain (by kernel_rfl)
#print axioms card
end Go.Proofs.YtjmbfcodmmnbiaaDoor.exprJoins
