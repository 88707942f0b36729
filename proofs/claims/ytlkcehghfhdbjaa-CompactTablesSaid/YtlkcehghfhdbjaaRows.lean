/-
  No cell of these rows narrows 'for every input' (looked for: loops, veiled, ifaces, maps, wideKeys, modest, calm, conditions, laid).
  DERIVED. THE GIVEN ROWS OF THIS SEAT. 7 by the template 'for every input the law returns true; each argument reads behind the call as it read before'; 0 by the template 'total and deterministic' (their statements: YtlkcehghfhdbjaaTotals.lean).
  GIVEN WITH THE SEED: the statements are not yours to turn. If you find one false, say at which input.
  Laid BY PROGRAM, IN A SANDBOX (cutbox-rows.mjs): the forced cells as the released guide's own fill.sh prints them over the translation 13d515e93ef15e8f… (all of the seat's roots in one cut). By AI agents, Wed Nov 11 2026. No macro, syntax, notation, axiom, sorry.
-/
import Derived.Test.YtlkcehghfhdbjaaChecked
import GoSem.Claim
import GoSem.ClaimJoined
import GoSem.ClaimMapViews
import Derived.JoinedTies
import Derived.KernelRfl
namespace Go.Proofs.Ytlkcehghfhdbjaa
/- THE CELL 'sum', in the pinned program and in every row, IS THE sha256 OF THE DUMP (.gsa) THAT YtlkcehghfhdbjaaProg.lean LOADS. Nothing in Lean hashes anything: it is a label: what it is worth is what the hold of that sum in a sandbox is worth. -/
noncomputable def Try.pinned : Pinned := { name := "ytlkcehghfhdbjaa", sum := "13d515e93ef15e8fcd173e6b98f931d1f9680e897103b0824b7cf5b7bda78df3", checked := Try.checked }
namespace Rows
def none {H : Type} : Left H := { results := [], args := [] }

/-- 'towpathlaw09.CompactCleans': WHATEVER THE INPUT: true; the input reads as it did. -/
def compactCleansSpec : ChangeSpec := { name := "compactCleans", fn := fun _ => fun
  | [d1, d2] => { results := [.lit (.bool true)], args := [d1, d2] }
  | _ => none }
def compactCleansRow : OpenClaim := { program := "ytlkcehghfhdbjaa", sum := "13d515e93ef15e8fcd173e6b98f931d1f9680e897103b0824b7cf5b7bda78df3", func := "towpath/towpathlaw09.CompactCleans", spec := "compactCleans", inPlace := ["slices.overlaps[towpath/rec.At]"], unfollowed := true, recurses := true, apart := false }
def CompactCleansSaid : Prop := compactCleansRow.holds Try.pinned (OpenSpec.ofChange compactCleansSpec)

/-- ITS FALSE NEIGHBOUR: 'it returns false'. Refute it at one input. -/
def compactCleansWrong : ChangeSpec := { name := "compactCleans", fn := fun _ => fun
  | [d1, d2] => { results := [.lit (.bool false)], args := [d1, d2] }
  | _ => none }
def CompactCleansWrongFalsely : Prop := compactCleansRow.holds Try.pinned (OpenSpec.ofChange compactCleansWrong)

/-- 'towpathlaw09.CompactAgain': WHATEVER THE INPUT: true; the input reads as it did. -/
def compactAgainSpec : ChangeSpec := { name := "compactAgain", fn := fun _ => fun
  | [d1, d2, d3] => { results := [.lit (.bool true)], args := [d1, d2, d3] }
  | _ => none }
def compactAgainRow : OpenClaim := { program := "ytlkcehghfhdbjaa", sum := "13d515e93ef15e8fcd173e6b98f931d1f9680e897103b0824b7cf5b7bda78df3", func := "towpath/towpathlaw09.CompactAgain", spec := "compactAgain", inPlace := ["slices.overlaps[towpath/rec.At]"], unfollowed := true, recurses := true, apart := false }
def CompactAgainSaid : Prop := compactAgainRow.holds Try.pinned (OpenSpec.ofChange compactAgainSpec)

/-- ITS FALSE NEIGHBOUR: 'it returns false'. Refute it at one input. -/
def compactAgainWrong : ChangeSpec := { name := "compactAgain", fn := fun _ => fun
  | [d1, d2, d3] => { results := [.lit (.bool false)], args := [d1, d2, d3] }
  | _ => none }
def CompactAgainWrongFalsely : Prop := compactAgainRow.holds Try.pinned (OpenSpec.ofChange compactAgainWrong)

/-- 'towpathlaw09.CompactCuts': WHATEVER THE INPUT: true; the input reads as it did. -/
def compactCutsSpec : ChangeSpec := { name := "compactCuts", fn := fun _ => fun
  | [d1, d2] => { results := [.lit (.bool true)], args := [d1, d2] }
  | _ => none }
def compactCutsRow : OpenClaim := { program := "ytlkcehghfhdbjaa", sum := "13d515e93ef15e8fcd173e6b98f931d1f9680e897103b0824b7cf5b7bda78df3", func := "towpath/towpathlaw09.CompactCuts", spec := "compactCuts", inPlace := ["slices.overlaps[towpath/rec.At]"], unfollowed := true, recurses := true, apart := false }
def CompactCutsSaid : Prop := compactCutsRow.holds Try.pinned (OpenSpec.ofChange compactCutsSpec)

/-- ITS FALSE NEIGHBOUR: 'it returns false'. Refute it at one input. -/
def compactCutsWrong : ChangeSpec := { name := "compactCuts", fn := fun _ => fun
  | [d1, d2] => { results := [.lit (.bool false)], args := [d1, d2] }
  | _ => none }
def CompactCutsWrongFalsely : Prop := compactCutsRow.holds Try.pinned (OpenSpec.ofChange compactCutsWrong)

/-- 'towpathlaw09.CompactStays': WHATEVER THE INPUT: true; the input reads as it did. -/
def compactStaysSpec : ChangeSpec := { name := "compactStays", fn := fun _ => fun
  | [d1, d2] => { results := [.lit (.bool true)], args := [d1, d2] }
  | _ => none }
def compactStaysRow : OpenClaim := { program := "ytlkcehghfhdbjaa", sum := "13d515e93ef15e8fcd173e6b98f931d1f9680e897103b0824b7cf5b7bda78df3", func := "towpath/towpathlaw09.CompactStays", spec := "compactStays", inPlace := ["slices.overlaps[towpath/rec.At]"], unfollowed := true, recurses := true, apart := false }
def CompactStaysSaid : Prop := compactStaysRow.holds Try.pinned (OpenSpec.ofChange compactStaysSpec)

/-- ITS FALSE NEIGHBOUR: 'it returns false'. Refute it at one input. -/
def compactStaysWrong : ChangeSpec := { name := "compactStays", fn := fun _ => fun
  | [d1, d2] => { results := [.lit (.bool false)], args := [d1, d2] }
  | _ => none }
def CompactStaysWrongFalsely : Prop := compactStaysRow.holds Try.pinned (OpenSpec.ofChange compactStaysWrong)

/-- 'towpathlaw09.CompactTables': WHATEVER THE INPUT: true; the input reads as it did. -/
def compactTablesSpec : ChangeSpec := { name := "compactTables", fn := fun _ => fun
  | [d1, d2] => { results := [.lit (.bool true)], args := [d1, d2] }
  | _ => none }
def compactTablesRow : OpenClaim := { program := "ytlkcehghfhdbjaa", sum := "13d515e93ef15e8fcd173e6b98f931d1f9680e897103b0824b7cf5b7bda78df3", func := "towpath/towpathlaw09.CompactTables", spec := "compactTables", inPlace := ["slices.overlaps[towpath/rec.At]"], unfollowed := true, recurses := true, apart := false }
def CompactTablesSaid : Prop := compactTablesRow.holds Try.pinned (OpenSpec.ofChange compactTablesSpec)

/-- ITS FALSE NEIGHBOUR: 'it returns false'. Refute it at one input. -/
def compactTablesWrong : ChangeSpec := { name := "compactTables", fn := fun _ => fun
  | [d1, d2] => { results := [.lit (.bool false)], args := [d1, d2] }
  | _ => none }
def CompactTablesWrongFalsely : Prop := compactTablesRow.holds Try.pinned (OpenSpec.ofChange compactTablesWrong)

/-- 'towpathlaw09.CompactNil': WHATEVER THE INPUT: true; the input reads as it did. -/
def compactNilSpec : ChangeSpec := { name := "compactNil", fn := fun _ => fun
  | [d1, d2] => { results := [.lit (.bool true)], args := [d1, d2] }
  | _ => none }
def compactNilRow : OpenClaim := { program := "ytlkcehghfhdbjaa", sum := "13d515e93ef15e8fcd173e6b98f931d1f9680e897103b0824b7cf5b7bda78df3", func := "towpath/towpathlaw09.CompactNil", spec := "compactNil", inPlace := ["slices.overlaps[towpath/rec.At]"], unfollowed := true, recurses := true, apart := false }
def CompactNilSaid : Prop := compactNilRow.holds Try.pinned (OpenSpec.ofChange compactNilSpec)

/-- ITS FALSE NEIGHBOUR: 'it returns false'. Refute it at one input. -/
def compactNilWrong : ChangeSpec := { name := "compactNil", fn := fun _ => fun
  | [d1, d2] => { results := [.lit (.bool false)], args := [d1, d2] }
  | _ => none }
def CompactNilWrongFalsely : Prop := compactNilRow.holds Try.pinned (OpenSpec.ofChange compactNilWrong)

/-- 'towpathlaw09.CompactPacks': WHATEVER THE INPUT: true; the input reads as it did. -/
def compactPacksSpec : ChangeSpec := { name := "compactPacks", fn := fun _ => fun
  | [d1, d2] => { results := [.lit (.bool true)], args := [d1, d2] }
  | _ => none }
def compactPacksRow : OpenClaim := { program := "ytlkcehghfhdbjaa", sum := "13d515e93ef15e8fcd173e6b98f931d1f9680e897103b0824b7cf5b7bda78df3", func := "towpath/towpathlaw09.CompactPacks", spec := "compactPacks", inPlace := ["slices.overlaps[towpath/rec.At]"], unfollowed := true, recurses := true, apart := false }
def CompactPacksSaid : Prop := compactPacksRow.holds Try.pinned (OpenSpec.ofChange compactPacksSpec)

/-- ITS FALSE NEIGHBOUR: 'it returns false'. Refute it at one input. -/
def compactPacksWrong : ChangeSpec := { name := "compactPacks", fn := fun _ => fun
  | [d1, d2] => { results := [.lit (.bool false)], args := [d1, d2] }
  | _ => none }
def CompactPacksWrongFalsely : Prop := compactPacksRow.holds Try.pinned (OpenSpec.ofChange compactPacksWrong)

/- THE SECOND FORM. 'bulk': how many values and letters a reading holds, each counted each time it is reached (what is shared counts as often as it is met; a slice's spare places count too). A statement '..UptoSaid' is the law's where the arguments, and the package variables that the reading takes, are together of bulk at most 1048576: NARROWER than '..Said'. Prove '..Said' where nothing that the law and all that it calls make is longer than what came in: it says more and counts as full. Else prove '..UptoSaid'. A law counts once. -/
mutual
def uptoBulk {H : Type} : DataW H → Nat
  | .lit (.string bytes) => bytes.length + 1
  | .lit _ => 1
  | .nil => 1
  | .ptr d => uptoBulk d + 1
  | .slice elems spare => uptoBulkAll elems + uptoBulkAll spare + 1
  | .agg parts => uptoBulkAll parts + 1
  | .iface _ d => uptoBulk d + 1
  | .map entries => uptoBulkEntries entries + 1
  | .held _ => 1
def uptoBulkAll {H : Type} : List (DataW H) → Nat
  | [] => 0
  | d :: r => uptoBulk d + uptoBulkAll r
def uptoBulkEntries {H : Type} : List (Lit × DataW H) → Nat
  | [] => 0
  | x :: r => uptoBulkEntry x + uptoBulkEntries r
def uptoBulkEntry {H : Type} : Lit × DataW H → Nat
  | (.string bytes, d) => bytes.length + uptoBulk d + 1
  | (_, d) => uptoBulk d + 1
 end
def uptoSmall : (H : Type) → List (DataW H) → Bool := fun _ ds => decide (uptoBulkAll ds ≤ 1048576)
def OpenSpec.upto (s : _root_.Go.ChangeSpec) : _root_.Go.OpenSpec := { _root_.Go.OpenSpec.ofChange s with cond := some uptoSmall }

/-- 'towpathlaw09.CompactCleans', WHERE WHAT IT READS IS OF BULK AT MOST 1048576: true; the input reads as it did. -/
def compactCleansUptoRow : OpenClaim := { program := "ytlkcehghfhdbjaa", sum := "13d515e93ef15e8fcd173e6b98f931d1f9680e897103b0824b7cf5b7bda78df3", func := "towpath/towpathlaw09.CompactCleans", spec := "compactCleans", inPlace := ["slices.overlaps[towpath/rec.At]"], unfollowed := true, recurses := true, apart := false, narrowed := true }
def CompactCleansUptoSaid : Prop := compactCleansUptoRow.holds Try.pinned (OpenSpec.upto compactCleansSpec)

/-- 'towpathlaw09.CompactAgain', WHERE WHAT IT READS IS OF BULK AT MOST 1048576: true; the input reads as it did. -/
def compactAgainUptoRow : OpenClaim := { program := "ytlkcehghfhdbjaa", sum := "13d515e93ef15e8fcd173e6b98f931d1f9680e897103b0824b7cf5b7bda78df3", func := "towpath/towpathlaw09.CompactAgain", spec := "compactAgain", inPlace := ["slices.overlaps[towpath/rec.At]"], unfollowed := true, recurses := true, apart := false, narrowed := true }
def CompactAgainUptoSaid : Prop := compactAgainUptoRow.holds Try.pinned (OpenSpec.upto compactAgainSpec)

/-- 'towpathlaw09.CompactCuts', WHERE WHAT IT READS IS OF BULK AT MOST 1048576: true; the input reads as it did. -/
def compactCutsUptoRow : OpenClaim := { program := "ytlkcehghfhdbjaa", sum := "13d515e93ef15e8fcd173e6b98f931d1f9680e897103b0824b7cf5b7bda78df3", func := "towpath/towpathlaw09.CompactCuts", spec := "compactCuts", inPlace := ["slices.overlaps[towpath/rec.At]"], unfollowed := true, recurses := true, apart := false, narrowed := true }
def CompactCutsUptoSaid : Prop := compactCutsUptoRow.holds Try.pinned (OpenSpec.upto compactCutsSpec)

/-- 'towpathlaw09.CompactStays', WHERE WHAT IT READS IS OF BULK AT MOST 1048576: true; the input reads as it did. -/
def compactStaysUptoRow : OpenClaim := { program := "ytlkcehghfhdbjaa", sum := "13d515e93ef15e8fcd173e6b98f931d1f9680e897103b0824b7cf5b7bda78df3", func := "towpath/towpathlaw09.CompactStays", spec := "compactStays", inPlace := ["slices.overlaps[towpath/rec.At]"], unfollowed := true, recurses := true, apart := false, narrowed := true }
def CompactStaysUptoSaid : Prop := compactStaysUptoRow.holds Try.pinned (OpenSpec.upto compactStaysSpec)

/-- 'towpathlaw09.CompactTables', WHERE WHAT IT READS IS OF BULK AT MOST 1048576: true; the input reads as it did. -/
def compactTablesUptoRow : OpenClaim := { program := "ytlkcehghfhdbjaa", sum := "13d515e93ef15e8fcd173e6b98f931d1f9680e897103b0824b7cf5b7bda78df3", func := "towpath/towpathlaw09.CompactTables", spec := "compactTables", inPlace := ["slices.overlaps[towpath/rec.At]"], unfollowed := true, recurses := true, apart := false, narrowed := true }
def CompactTablesUptoSaid : Prop := compactTablesUptoRow.holds Try.pinned (OpenSpec.upto compactTablesSpec)

/-- 'towpathlaw09.CompactNil', WHERE WHAT IT READS IS OF BULK AT MOST 1048576: true; the input reads as it did. -/
def compactNilUptoRow : OpenClaim := { program := "ytlkcehghfhdbjaa", sum := "13d515e93ef15e8fcd173e6b98f931d1f9680e897103b0824b7cf5b7bda78df3", func := "towpath/towpathlaw09.CompactNil", spec := "compactNil", inPlace := ["slices.overlaps[towpath/rec.At]"], unfollowed := true, recurses := true, apart := false, narrowed := true }
def CompactNilUptoSaid : Prop := compactNilUptoRow.holds Try.pinned (OpenSpec.upto compactNilSpec)

/-- 'towpathlaw09.CompactPacks', WHERE WHAT IT READS IS OF BULK AT MOST 1048576: true; the input reads as it did. -/
def compactPacksUptoRow : OpenClaim := { program := "ytlkcehghfhdbjaa", sum := "13d515e93ef15e8fcd173e6b98f931d1f9680e897103b0824b7cf5b7bda78df3", func := "towpath/towpathlaw09.CompactPacks", spec := "compactPacks", inPlace := ["slices.overlaps[towpath/rec.At]"], unfollowed := true, recurses := true, apart := false, narrowed := true }
def CompactPacksUptoSaid : Prop := compactPacksUptoRow.holds Try.pinned (OpenSpec.upto compactPacksSpec)

end Rows
end Go.Proofs.Ytlkcehghfhdbjaa
