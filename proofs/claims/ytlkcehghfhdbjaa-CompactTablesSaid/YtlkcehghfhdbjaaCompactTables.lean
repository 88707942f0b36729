/-
CompactTables answers true for all calls and every cut, and leaves its arguments as they are. No condition.
-/
import Derived.Test.YtlkcehghfhdbjaaRows
import Derived.ChangeMaps5
import Derived.Test.YtlkcehghfhdbjaaT6
namespace Go.Proofs.Ytlkcehghfhdbjaa.compactTables
open Go.ChangeShapes Go.WideShapes Go.ChangeAt Go.RowKit Go.ChangeMaps Go.Ev
set_option linter.unusedVariables false
set_option maxRecDepth 100000

theorem own : ownKnob Try.prog.godebug = none := by kernel_rfl
theorem laidOut : laidOutB Try.prog = true := by kernel_rfl
theorem rowed : mapsRowed Try.prog = true := by kernel_rfl
theorem full : ((List.range Try.prog.types.size).all fun t => match Try.prog.underlying t with | some (.slice e) => decide (0 < Try.prog.cellsOf e) | _ => true) = true := by kernel_rfl

theorem lifted (os : Os) (started : os.Started) (H : Type) (enc : TypeId × Value → H) :
    ReturnsInHanded {} Try.checked os 7 .any (Rows.compactTablesSpec.pre6 enc Try.prog Try.f7 Rows.compactTablesRow.domain false) (Rows.compactTablesSpec.post enc Try.prog Try.f7 false true false false) := by
  refine returnsInHanded_of_change_sized (C := Try.checked) own started (by kernel_rfl) Try.func7
    (ChangeSpec.witness6 (enc := enc) (C := Try.checked) false ⟨#[], #[.slice none 0 0, .int .i64 0], []⟩ 7 (by kernel_rfl) (by kernel_rfl) (by kernel_rfl) (by kernel_rfl)) ?_
  intro W base args ds gs before hval hW _ hsz _
  have hpost := fun e W' => Row.law_post (e := e) (W' := W') (apart := false) (fresh := true) (handsOn := false) (again := false) (tb := 4) (s := Rows.compactTablesSpec) laidOut rowed (slices_full_of _ full) (of_decide_eq_true (by kernel_rfl)) rfl (by kernel_rfl) (by kernel_rfl) (fun ds h => by
    match ds, h with
    | [a0, a1], _ => rfl) hW
  obtain ⟨p, q, hA0, _⟩ := hW
  replace hsz : (DataW.weightsEach Try.prog ([48, 3] ++ _) (ds ++ gs)).all (· ≤ reachBytes) = true := hsz
  have hA : DataW.TrodAll enc Try.prog W 0 (fun _ => true) true [48, 3] args.toList ds p := hA0
  replace hval : ∀ (j : Nat) t v, (#[48, 3] : Array TypeId)[j]? = some t → args[j]? = some v → Value.okWide Try.prog W .any base t v := hval
  obtain ⟨v0, vs0, d0, ds0, p0, q0, hargs, rfl, rfl, h0, r0⟩ := trodAll_cons hA
  obtain ⟨v1, vs1, d1, ds1, p1, q1, rfl, rfl, rfl, h1, r1⟩ := trodAll_cons r0
  obtain ⟨rfl, rfl, rfl⟩ := trodAll_nil r1
  obtain rfl : args = #[v0, v1] := by cases args; simp_all
  have hw : ∀ (j : Nat) (t : TypeId) (d : DataW H), ([48, 3] : List TypeId)[j]? = some t → [d0, d1][j]? = some d → ∀ m ∈ d.weights Try.prog t, m ≤ reachBytes := fun j t d ht hd m hm => by
    have := List.all_eq_true.1 hsz m (DataW.weights_mem_each (j := j) (t := t) (d := d) (by rw [List.getElem?_append_left (List.getElem?_eq_some_iff.1 ht).1]; exact ht) (by rw [List.getElem?_append_left (List.getElem?_eq_some_iff.1 hd).1]; exact hd) m hm)
    simpa using this
  obtain ⟨a0, ra0, ⟨g0, _⟩ | ⟨_, f0⟩⟩ := arg_rep (k := 12) (s := [.slice 6 true [.int .i64, .slice 6 true [.int .i64, .bool, .str, .str, .bool, .int .i64], .bool, .str, .str, .int .i64]]) (by kernel_rfl) (hval 0 48 v0 rfl rfl) h0 (hw 0 48 d0 rfl rfl)
  · cases g0
  obtain ⟨els0, rfl, w0, hels0⟩ := fits_slice f0
  obtain ⟨x0, rfl, _⟩ := els_map (enc := encCall) (p := fun _ => True) fun e he => by
    obtain ⟨cs, rfl, hc⟩ := hels0 e he
    obtain ⟨x, hx⟩ := fits_call hc
    exact ⟨x, hx, trivial⟩
  obtain ⟨a1, ra1, ⟨g1, _⟩ | ⟨_, f1⟩⟩ := arg_rep (k := 12) (s := [.int .i64]) (by kernel_rfl) (hval 1 3 v1 rfl rfl) h1 (hw 1 3 d1 rfl rfl)
  · cases g1
  obtain ⟨x1, rfl, w1⟩ := fits_int f1
  exact Calls.mono (row_calls (tables_spec x0 x1) W (.cons (l := []) (m := []) ra0 (.cons (l := []) (m := []) ra1 .nil))) hpost

theorem proved : Rows.CompactTablesSaid :=
  OpenClaim.holds_of_wide 7 Try.f7 rfl rfl rfl rfl rfl rfl rfl ⟨rfl, rfl, rfl, rfl, rfl⟩ rfl rfl rfl rfl rfl (by kernel_rfl) Try.func7 (by kernel_rfl)
    (of_decide_eq_true (by kernel_rfl)) (by unfold Func.isWrapper; first | (rw [if_pos (by decide +kernel)]; kernel_rfl) | (rw [if_neg (by decide +kernel)]; exact ⟨rfl, rfl⟩))
    (fun os started H enc _ => lifted os started H enc)
#print axioms proved
end Go.Proofs.Ytlkcehghfhdbjaa.compactTables
