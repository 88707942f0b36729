/-
CompactNil answers true for every key and every number, whatever they are, and leaves its arguments as they are. No condition.
-/
import Derived.Test.YtlkcehghfhdbjaaRows
import Derived.Test.YtlkcehghfhdbjaaEb15
import Derived.Test.YtlkcehghfhdbjaaEbRow
import Derived.ChangeMaps5
import Derived.SizedLaws
namespace Go.Proofs.Ytlkcehghfhdbjaa.compactNil
open Go.ChangeShapes Go.WideShapes Go.ChangeAt Go.RowKit Go.Eb Go.ChangeMaps
set_option linter.unusedVariables false
set_option maxRecDepth 100000

theorem own : ownKnob Try.prog.godebug = none := by kernel_rfl
theorem laidOut : laidOutB Try.prog = true := by kernel_rfl
theorem rowed : mapsRowed Try.prog = true := by kernel_rfl
theorem full : ((List.range Try.prog.types.size).all fun t => match Try.prog.underlying t with | some (.slice e) => decide (0 < Try.prog.cellsOf e) | _ => true) = true := by kernel_rfl

theorem awake : runB Try.prog [] 100 15 [] .e 0 isTrue = some () := by kernel_rfl
theorem short : runB Try.prog [15] 100 8 [.anys 0 100, .undef] .e 0 isTrue = some () := by kernel_rfl
theorem long : runB Try.prog [15] 100 8 [.anys 101 140737488355328, .undef] .e 0 isTrue = some () := by kernel_rfl
theorem known : Known Try.prog [15] := known_cons known_nil (by kernel_rfl) awake

theorem good (W : World) (s : ByteArray) (n : Int) (hs : s.size ≤ 140737488355328) : Calls Try.prog 8 #[.string s, .int .i64 n] W (Row.Good W) := by
  have key : ∀ lo hi, lo ≤ s.size → s.size ≤ hi → runB Try.prog [15] 100 8 [.anys lo hi, .undef] .e 0 isTrue = some () → Calls Try.prog 8 #[.string s, .int .i64 n] W (Row.Good W) := fun lo hi h1 h2 h =>
    (closed_call known h W (cargs := #[.string s, .int .i64 n]) (.cons (.anys h1 h2 hs) (.cons (.undef rfl) .nil))).mono fun e w' ⟨a, b, c, _, d, f⟩ => ⟨a, b, c, d, f⟩
  by_cases h : s.size ≤ 100
  · exact key 0 100 (by omega) h short
  · exact key 101 _ (by omega) hs long

theorem lifted (os : Os) (started : os.Started) (H : Type) (enc : TypeId × Value → H) :
    ReturnsInHanded {} Try.checked os 8 .any (Rows.compactNilSpec.pre6 enc Try.prog Try.f8 Rows.compactNilRow.domain false) (Rows.compactNilSpec.post enc Try.prog Try.f8 false true false false) := by
  refine returnsInHanded_of_change_sized (C := Try.checked) own started (by kernel_rfl) Try.func8
    (ChangeSpec.witness6 (enc := enc) (C := Try.checked) false ⟨#[], #[.string ByteArray.empty, .int .i64 0], []⟩ 8 (by kernel_rfl) (by kernel_rfl) (by kernel_rfl) (by kernel_rfl)) ?_
  intro W base args ds gs before hval hW _ hsz _
  have hpost := fun e W' => Row.law_post (e := e) (W' := W') (apart := false) (fresh := true) (handsOn := false) (again := false) (tb := 4) (s := Rows.compactNilSpec) laidOut rowed (slices_full_of _ full) (of_decide_eq_true (by kernel_rfl)) rfl (by kernel_rfl) (by kernel_rfl) (fun ds h => by
    match ds, h with
    | [a, b], _ => rfl) hW
  obtain ⟨p, q, hA0, _⟩ := hW
  replace hsz : (DataW.weightsEach Try.prog ([9, 3] ++ _) (ds ++ gs)).all (· ≤ reachBytes) = true := hsz
  have hA : DataW.TrodAll enc Try.prog W 0 (fun _ => true) true [9, 3] args.toList ds p := hA0
  replace hval : ∀ (j : Nat) t v, (#[9, 3] : Array TypeId)[j]? = some t → args[j]? = some v → Value.okWide Try.prog W .any base t v := hval
  obtain ⟨v0, vs0, d0, ds0, p0, q0, hargs, rfl, rfl, h0, r0⟩ := trodAll_cons hA
  obtain ⟨v1, vs1, d1, ds1, p1, q1, rfl, rfl, rfl, h1, r1⟩ := trodAll_cons r0
  obtain ⟨rfl, rfl, rfl⟩ := trodAll_nil r1
  obtain rfl : args = #[v0, v1] := by cases args; simp_all
  obtain ⟨s, rfl, rfl, _, _⟩ := open_string Try.underlying9 (hval 0 9 v0 rfl rfl) h0
  have hs : s.size ≤ 140737488355328 := by
    have h1 := sized_string hsz (j := 0) (t := 9) rfl rfl
    have h2 := reachBytes_lt
    rw [Array.length_toList] at h1
    have h3 : s.data.size = s.size := rfl
    omega
  obtain ⟨n, rfl, _, _, _⟩ := open_int Try.underlying3 (hval 1 3 v1 rfl rfl) h1
  exact Calls.mono (good W s n hs) hpost

theorem proved : Rows.CompactNilSaid :=
  OpenClaim.holds_of_wide 8 Try.f8 rfl rfl rfl rfl rfl rfl rfl ⟨rfl, rfl, rfl, rfl, rfl⟩ rfl rfl rfl rfl rfl (by kernel_rfl) Try.func8 (by kernel_rfl)
    (of_decide_eq_true (by kernel_rfl)) (by unfold Func.isWrapper; first | (rw [if_pos (by decide +kernel)]; kernel_rfl) | (rw [if_neg (by decide +kernel)]; exact ⟨rfl, rfl⟩))
    (fun os started H enc _ => lifted os started H enc)
#print axioms proved
end Go.Proofs.Ytlkcehghfhdbjaa.compactNil
