/-
What holds of the program of layer 22: its example comes to true; the list of words; a copy of a text; the package variables that are read.
-/
import Derived.Test.YthglbpibfhfgnaaGreatDoorRows
import Derived.Test.YthglbpibfhfgnaaGreatDoorEb15
import Derived.Test.YthglbpibfhfgnaaGreatDoorEbRow
import Derived.Shelf.Pu.Clone
import Derived.Deep.DeepHandedRow
import Derived.Deep.DeepWitnessRowRef
import Derived.Lib.LaidIn
import Derived.Lib.LaidU8
import Derived.LaidLaws
import Derived.ChangeMaps5
import Derived.SizedLaws
namespace Go.Proofs.YthglbpibfhfgnaaGreatDoor
open Go.ChangeShapes Go.WideShapes Go.ChangeAt Go.RowKit Go.Eb Go.ChangeMaps
set_option linter.unusedVariables false
set_option maxRecDepth 100000

theorem own : ownKnob Tryz.prog.godebug = none := by kernel_rfl
theorem laidOut : laidOutB Tryz.prog = true := by kernel_rfl
theorem rowed : mapsRowed Tryz.prog = true := by kernel_rfl
theorem full : ((List.range Tryz.prog.types.size).all fun t => match Tryz.prog.underlying t with | some (.slice e) => decide (0 < Tryz.prog.cellsOf e) | _ => true) = true := by kernel_rfl

/-! ### A copy of a text -/
def renC : Go.Shelf.Ren := ⟨fun i => if i = 25 then 221 else i, fun t => if t = 37 then 158 else if t = 47 then 325 else t, fun g => g⟩
theorem laysC : LaysPu.n25 Tryz.prog renC where
  mixed := by kernel_rfl
  f25 := by kernel_rfl
  t0 := by kernel_rfl
  a0 := fun w => by kernel_rfl
  z0 := fun w => by kernel_rfl
  v0 := fun w => by kernel_rfl
  i0 := by kernel_rfl
  t3 := by kernel_rfl
  a3 := fun w => by kernel_rfl
  z3 := fun w => by kernel_rfl
  v3 := fun w => by kernel_rfl
  i3 := by kernel_rfl
  t4 := by kernel_rfl
  a4 := fun w => by kernel_rfl
  z4 := fun w => by kernel_rfl
  v4 := fun w => by kernel_rfl
  i4 := by kernel_rfl
  t5 := by kernel_rfl
  a5 := fun w => by kernel_rfl
  z5 := fun w => by kernel_rfl
  v5 := fun w => by kernel_rfl
  i5 := by kernel_rfl
  t9 := by kernel_rfl
  a9 := fun w => by kernel_rfl
  z9 := fun w => by kernel_rfl
  v9 := fun w => by kernel_rfl
  i9 := by kernel_rfl
  t37 := by kernel_rfl
  a37 := fun w => by kernel_rfl
  z37 := fun w => by kernel_rfl
  v37 := fun w => by kernel_rfl
  i37 := by kernel_rfl
  t47 := by kernel_rfl
  a47 := fun w => by kernel_rfl
  z47 := fun w => by kernel_rfl
  v47 := fun w => by kernel_rfl
  i47 := by kernel_rfl
theorem clone : KnOk Tryz.prog 221 .idstr := fun w s hs _ => (AnyPu.stringslite_Clone laysC s w (Nat.le_trans hs (by decide))).mono fun e w' ⟨he, hb⟩ => ⟨⟨hb.size, hb.block, hb.tape, hb.os, hb.output⟩, he⟩

/-! ### What is known -/
def wordsL : List (List Nat) := [[], [], [110, 111, 110, 101], [107, 101, 121], [118, 97, 108, 117, 101], [116, 105, 109, 101], [110, 111, 119], [111, 108, 100], [115, 105, 100, 101], [97, 100, 100], [115, 117, 98], [109, 117, 108], [100, 105, 118], [109, 111, 100], [109, 105, 110], [109, 97, 120], [110, 101, 103], [101, 113], [108, 116], [97, 110, 100], [111, 114], [110, 111, 116], [99, 97, 116], [108, 101, 110], [112, 97, 114, 116], [104, 97, 115], [110, 117, 109], [116, 101, 120, 116], [102, 105, 101, 108, 100], [101, 108, 115, 101], [105, 115], [112, 105, 99, 107], [100, 117, 112], [115, 119, 97, 112], [100, 114, 111, 112], [106, 117, 109, 112], [119, 104, 101, 110]]
noncomputable def wordsT : T V := strsT wordsL
theorem known1 : Known Tryz.prog [(221, .idstr)] := known_more known_nil (by kernel_rfl) clone
theorem words : runB Tryz.prog [(221, .idstr)] 100 195 [] .e 0 (isRes 0 1 37 37 true wordsT) = some () := by kernel_rfl
theorem known2 : Known Tryz.prog [(195, .res (.sl 0 0 1 37 none) (.cells 37 true wordsT)), (221, .idstr)] := known_res known1 (by kernel_rfl) words
theorem awake : runB Tryz.prog [(195, .res (.sl 0 0 1 37 none) (.cells 37 true wordsT)), (221, .idstr)] 100 12 [] .e 0 isTrue = some () := by kernel_rfl
noncomputable def kn : List (Nat × KS) := [(12, .tru), (195, .res (.sl 0 0 1 37 none) (.cells 37 true wordsT)), (221, .idstr)]
theorem known : Known Tryz.prog kn := known_tru known2 (by kernel_rfl) awake

/-! ### The package variables -/
theorem glob23 (k : Nat) (h : globOk Tryz.prog k = true) : k = 2 ∨ k = 3 := by
  rcases Nat.lt_or_ge k 8 with hk | hk
  · have h1 : ((List.range 8).all fun k => !globOk Tryz.prog k || Nat.beq k 2 || Nat.beq k 3) = true := by kernel_rfl
    have := List.all_eq_true.1 h1 k (List.mem_range.2 hk)
    rw [h] at this
    simpa [Nat.beq_eq] using this
  · have hs : Tryz.prog.globals.size = 8 := by kernel_rfl
    unfold globOk at h
    rw [Array.getElem?_eq_none (by rw [hs]; exact hk)] at h
    cases h
theorem glob_of {W : World} {n nm : String} {d : DataW Unit} {g t : Nat} (h : Lib.VarReads Tryz.prog W n (.iface nm d)) (hg : Tryz.prog.globalNamed n = some g) (ht : (Tryz.prog.globals[g]?).map (·.type) = some t) (hu : isIfc Tryz.prog t = true) :
    ∃ c, W.cell? ⟨g, 0, none⟩ = some c ∧ c.oneCell' = true := by
  obtain ⟨ms, hu⟩ : ∃ ms, Tryz.prog.underlying t = some (.interface ms) := by
    unfold isIfc at hu
    split at hu
    · rename_i ms h2; exact ⟨ms, h2⟩
    · cases hu
  obtain ⟨g', t', cs, fuel, p, h1, h2, h3, h4⟩ := h
  obtain rfl : g = g' := by rw [hg] at h1; injection h1
  obtain rfl : t = t' := by rw [ht] at h2; injection h2
  obtain ⟨_, u, v, hcs, _⟩ := iface_of_trod hu h4
  refine ⟨.iface u v, ?_, rfl⟩
  rw [World.var?_cell hg h3 0, ← Array.getElem?_toList, hcs]
  rfl

/-! ### A world for the witness -/
def flatD : DataW Unit → List Value
  | .lit (.int k n) => [.int k n]
  | .agg ds => flatL ds
  | _ => []
where flatL : List (DataW Unit) → List Value
  | [] => []
  | d :: r => flatD d ++ flatL r
def textV (d : DataW Unit) : Value := match d with
  | .iface _ (.ptr (.agg [.lit (.string l)])) => .string ⟨l.toArray⟩
  | _ => .nilIface
noncomputable def laidWorld (os : Os) : World :=
  let N := (World.settled Tryz.prog os).heap.size
  let w0 := World.holding Tryz.prog os ⟨#[.cells #[textV Rows.laid_strconv_ErrSyntax] 328, .cells #[textV Rows.laid_strconv_ErrRange] 328], #[], []⟩
  let put (h : Array Obj) (g : Nat) (cs : Array Value) : Array Obj := h.modify g fun
    | .cells _ t frozen => .cells cs t frozen
    | o => o
  let h1 := put w0.heap 1 (flatD Rows.laid_internal_strconv_uint64pow10).toArray
  let h2 := put h1 2 #[.iface 326 (.pointer (some ⟨N, 0, none⟩))]
  let h3 := put h2 3 #[.iface 326 (.pointer (some ⟨N + 1, 0, none⟩))]
  let h4 := put h3 4 (flatD Rows.laid_math_bits_deBruijn32tab).toArray
  let h5 := put h4 5 (flatD Rows.laid_math_bits_deBruijn64tab).toArray
  let h6 := put h5 6 (flatD Rows.laid_unicode_utf8_first).toArray
  let h7 := put h6 7 (flatD Rows.laid_unicode_utf8_acceptRanges).toArray
  { w0 with heap := h7 }
theorem laid_met (os : Os) (args : Array Value) : laidMet Tryz.prog Rows.stepNilRow.laid ((laidWorld os).forCall (fun _ _ => 0) ⟨#[], args, []⟩).memory :=
  laidMet_of_run' 8 (by kernel_rfl) (by kernel_rfl)
end Go.Proofs.YthglbpibfhfgnaaGreatDoor
