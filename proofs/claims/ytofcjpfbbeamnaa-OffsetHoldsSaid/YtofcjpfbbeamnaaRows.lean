/-
  NARROWER THAN 'FOR EVERY INPUT', by the rows' own cells (each row's printed sentence says how): OffsetHolds: loops.
  DERIVED. THE GIVEN ROWS OF THIS SEAT. 10 by the template 'for every input the law returns true; each argument reads behind the call as it read before'; 0 by the template 'total and deterministic' (their statements: YtofcjpfbbeamnaaTotals.lean).
  GIVEN WITH THE SEED: the statements are not yours to turn. If you find one false, say at which input.
  Laid BY PROGRAM, IN A SANDBOX (cutbox-rows.mjs): the forced cells as the released guide's own fill.sh prints them over the translation ed31118742b24d3a… (all of the seat's roots in one cut). By AI agents, Wed Nov 11 2026. No macro, syntax, notation, axiom, sorry.
-/
import Derived.Test.YtofcjpfbbeamnaaChecked
import GoSem.Claim
import GoSem.ClaimJoined
import GoSem.ClaimMapViews
import Derived.JoinedTies
import Derived.KernelRfl
namespace Go.Proofs.Ytofcjpfbbeamnaa
/- THE CELL 'sum', in the pinned program and in every row, IS THE sha256 OF THE DUMP (.gsa) THAT YtofcjpfbbeamnaaProg.lean LOADS. Nothing in Lean hashes anything: it is a label: what it is worth is what the hold of that sum in a sandbox is worth. -/
noncomputable def Try.pinned : Pinned := { name := "ytofcjpfbbeamnaa", sum := "ed31118742b24d3abae18a5809e88e5d3be5620fe55e33a78b4e51e9d13bb334", checked := Try.checked }
namespace Rows
def none {H : Type} : Left H := { results := [], args := [] }

/-- 'gantrylaw05.TermOnce': WHATEVER THE INPUT: true; the input reads as it did. -/
def termOnceSpec : ChangeSpec := { name := "termOnce", fn := fun _ => fun
  | [d1, d2, d3] => { results := [.lit (.bool true)], args := [d1, d2, d3] }
  | _ => none }
def termOnceRow : OpenClaim := { program := "ytofcjpfbbeamnaa", sum := "ed31118742b24d3abae18a5809e88e5d3be5620fe55e33a78b4e51e9d13bb334", func := "gantry/gantrylaw05.TermOnce", spec := "termOnce", plainKeys := false, apart := false }
def TermOnceSaid : Prop := termOnceRow.holds Try.pinned (OpenSpec.ofChange termOnceSpec)

/-- ITS FALSE NEIGHBOUR: 'it returns false'. Refute it at one input. -/
def termOnceWrong : ChangeSpec := { name := "termOnce", fn := fun _ => fun
  | [d1, d2, d3] => { results := [.lit (.bool false)], args := [d1, d2, d3] }
  | _ => none }
def TermOnceWrongFalsely : Prop := termOnceRow.holds Try.pinned (OpenSpec.ofChange termOnceWrong)

/-- 'gantrylaw05.TermCuts': WHATEVER THE INPUT: true; the input reads as it did. -/
def termCutsSpec : ChangeSpec := { name := "termCuts", fn := fun _ => fun
  | [d1, d2] => { results := [.lit (.bool true)], args := [d1, d2] }
  | _ => none }
def termCutsRow : OpenClaim := { program := "ytofcjpfbbeamnaa", sum := "ed31118742b24d3abae18a5809e88e5d3be5620fe55e33a78b4e51e9d13bb334", func := "gantry/gantrylaw05.TermCuts", spec := "termCuts", plainKeys := false, apart := false }
def TermCutsSaid : Prop := termCutsRow.holds Try.pinned (OpenSpec.ofChange termCutsSpec)

/-- ITS FALSE NEIGHBOUR: 'it returns false'. Refute it at one input. -/
def termCutsWrong : ChangeSpec := { name := "termCuts", fn := fun _ => fun
  | [d1, d2] => { results := [.lit (.bool false)], args := [d1, d2] }
  | _ => none }
def TermCutsWrongFalsely : Prop := termCutsRow.holds Try.pinned (OpenSpec.ofChange termCutsWrong)

/-- 'gantrylaw05.TermTrees': WHATEVER THE INPUT: true; the input reads as it did. -/
def termTreesSpec : ChangeSpec := { name := "termTrees", fn := fun _ => fun
  | [d] => { results := [.lit (.bool true)], args := [d] }
  | _ => none }
def termTreesRow : OpenClaim := { program := "ytofcjpfbbeamnaa", sum := "ed31118742b24d3abae18a5809e88e5d3be5620fe55e33a78b4e51e9d13bb334", func := "gantry/gantrylaw05.TermTrees", spec := "termTrees", unfollowed := true, recurses := true, plainKeys := false, apart := false }
def TermTreesSaid : Prop := termTreesRow.holds Try.pinned (OpenSpec.ofChange termTreesSpec)

/-- ITS FALSE NEIGHBOUR: 'it returns false'. Refute it at one input. -/
def termTreesWrong : ChangeSpec := { name := "termTrees", fn := fun _ => fun
  | [d] => { results := [.lit (.bool false)], args := [d] }
  | _ => none }
def TermTreesWrongFalsely : Prop := termTreesRow.holds Try.pinned (OpenSpec.ofChange termTreesWrong)

/-- 'gantrylaw05.TermReaches': WHATEVER THE INPUT: true; the input reads as it did. -/
def termReachesSpec : ChangeSpec := { name := "termReaches", fn := fun _ => fun
  | [d1, d2] => { results := [.lit (.bool true)], args := [d1, d2] }
  | _ => none }
def termReachesRow : OpenClaim := { program := "ytofcjpfbbeamnaa", sum := "ed31118742b24d3abae18a5809e88e5d3be5620fe55e33a78b4e51e9d13bb334", func := "gantry/gantrylaw05.TermReaches", spec := "termReaches", unfollowed := true, recurses := true, plainKeys := false, apart := false }
def TermReachesSaid : Prop := termReachesRow.holds Try.pinned (OpenSpec.ofChange termReachesSpec)

/-- ITS FALSE NEIGHBOUR: 'it returns false'. Refute it at one input. -/
def termReachesWrong : ChangeSpec := { name := "termReaches", fn := fun _ => fun
  | [d1, d2] => { results := [.lit (.bool false)], args := [d1, d2] }
  | _ => none }
def TermReachesWrongFalsely : Prop := termReachesRow.holds Try.pinned (OpenSpec.ofChange termReachesWrong)

/-- 'gantrylaw11.OffsetHolds': WHATEVER THE INPUT: true; the input reads as it did. -/
def offsetHoldsSpec : ChangeSpec := { name := "offsetHolds", fn := fun _ => fun
  | [d1, d2, d3, d4, d5, d6] => { results := [.lit (.bool true)], args := [d1, d2, d3, d4, d5, d6] }
  | _ => none }
def offsetHoldsRow : OpenClaim := { program := "ytofcjpfbbeamnaa", sum := "ed31118742b24d3abae18a5809e88e5d3be5620fe55e33a78b4e51e9d13bb334", func := "gantry/gantrylaw11.OffsetHolds", spec := "offsetHolds", unfollowed := true, recurses := true, loops := true, plainKeys := false, apart := false }
def OffsetHoldsSaid : Prop := offsetHoldsRow.holds Try.pinned (OpenSpec.ofChange offsetHoldsSpec)

/-- ITS FALSE NEIGHBOUR: 'it returns false'. Refute it at one input. -/
def offsetHoldsWrong : ChangeSpec := { name := "offsetHolds", fn := fun _ => fun
  | [d1, d2, d3, d4, d5, d6] => { results := [.lit (.bool false)], args := [d1, d2, d3, d4, d5, d6] }
  | _ => none }
def OffsetHoldsWrongFalsely : Prop := offsetHoldsRow.holds Try.pinned (OpenSpec.ofChange offsetHoldsWrong)

/-- 'gantrylaw11.OffsetOnce': WHATEVER THE INPUT: true; the input reads as it did. -/
def offsetOnceSpec : ChangeSpec := { name := "offsetOnce", fn := fun _ => fun
  | [d1, d2, d3] => { results := [.lit (.bool true)], args := [d1, d2, d3] }
  | _ => none }
def offsetOnceRow : OpenClaim := { program := "ytofcjpfbbeamnaa", sum := "ed31118742b24d3abae18a5809e88e5d3be5620fe55e33a78b4e51e9d13bb334", func := "gantry/gantrylaw11.OffsetOnce", spec := "offsetOnce", unfollowed := true, recurses := true, plainKeys := false, apart := false }
def OffsetOnceSaid : Prop := offsetOnceRow.holds Try.pinned (OpenSpec.ofChange offsetOnceSpec)

/-- ITS FALSE NEIGHBOUR: 'it returns false'. Refute it at one input. -/
def offsetOnceWrong : ChangeSpec := { name := "offsetOnce", fn := fun _ => fun
  | [d1, d2, d3] => { results := [.lit (.bool false)], args := [d1, d2, d3] }
  | _ => none }
def OffsetOnceWrongFalsely : Prop := offsetOnceRow.holds Try.pinned (OpenSpec.ofChange offsetOnceWrong)

/-- 'gantrylaw11.OffsetTurns': WHATEVER THE INPUT: true; the input reads as it did. -/
def offsetTurnsSpec : ChangeSpec := { name := "offsetTurns", fn := fun _ => fun
  | [d1, d2, d3, d4] => { results := [.lit (.bool true)], args := [d1, d2, d3, d4] }
  | _ => none }
def offsetTurnsRow : OpenClaim := { program := "ytofcjpfbbeamnaa", sum := "ed31118742b24d3abae18a5809e88e5d3be5620fe55e33a78b4e51e9d13bb334", func := "gantry/gantrylaw11.OffsetTurns", spec := "offsetTurns", unfollowed := true, recurses := true, plainKeys := false, apart := false }
def OffsetTurnsSaid : Prop := offsetTurnsRow.holds Try.pinned (OpenSpec.ofChange offsetTurnsSpec)

/-- ITS FALSE NEIGHBOUR: 'it returns false'. Refute it at one input. -/
def offsetTurnsWrong : ChangeSpec := { name := "offsetTurns", fn := fun _ => fun
  | [d1, d2, d3, d4] => { results := [.lit (.bool false)], args := [d1, d2, d3, d4] }
  | _ => none }
def OffsetTurnsWrongFalsely : Prop := offsetTurnsRow.holds Try.pinned (OpenSpec.ofChange offsetTurnsWrong)

/-- 'gantrylaw11.OffsetBack': WHATEVER THE INPUT: true; the input reads as it did. -/
def offsetBackSpec : ChangeSpec := { name := "offsetBack", fn := fun _ => fun
  | [d1, d2, d3, d4, d5] => { results := [.lit (.bool true)], args := [d1, d2, d3, d4, d5] }
  | _ => none }
def offsetBackRow : OpenClaim := { program := "ytofcjpfbbeamnaa", sum := "ed31118742b24d3abae18a5809e88e5d3be5620fe55e33a78b4e51e9d13bb334", func := "gantry/gantrylaw11.OffsetBack", spec := "offsetBack", unfollowed := true, recurses := true, plainKeys := false, apart := false }
def OffsetBackSaid : Prop := offsetBackRow.holds Try.pinned (OpenSpec.ofChange offsetBackSpec)

/-- ITS FALSE NEIGHBOUR: 'it returns false'. Refute it at one input. -/
def offsetBackWrong : ChangeSpec := { name := "offsetBack", fn := fun _ => fun
  | [d1, d2, d3, d4, d5] => { results := [.lit (.bool false)], args := [d1, d2, d3, d4, d5] }
  | _ => none }
def OffsetBackWrongFalsely : Prop := offsetBackRow.holds Try.pinned (OpenSpec.ofChange offsetBackWrong)

/-- 'gantrylaw13.AtomsJoined': WHATEVER THE INPUT: true; the input reads as it did. -/
def atomsJoinedSpec : ChangeSpec := { name := "atomsJoined", fn := fun _ => fun
  | [d1, d2, d3] => { results := [.lit (.bool true)], args := [d1, d2, d3] }
  | _ => none }
def atomsJoinedRow : OpenClaim := { program := "ytofcjpfbbeamnaa", sum := "ed31118742b24d3abae18a5809e88e5d3be5620fe55e33a78b4e51e9d13bb334", func := "gantry/gantrylaw13.AtomsJoined", spec := "atomsJoined", unfollowed := true, recurses := true, plainKeys := false, apart := false }
def AtomsJoinedSaid : Prop := atomsJoinedRow.holds Try.pinned (OpenSpec.ofChange atomsJoinedSpec)

/-- ITS FALSE NEIGHBOUR: 'it returns false'. Refute it at one input. -/
def atomsJoinedWrong : ChangeSpec := { name := "atomsJoined", fn := fun _ => fun
  | [d1, d2, d3] => { results := [.lit (.bool false)], args := [d1, d2, d3] }
  | _ => none }
def AtomsJoinedWrongFalsely : Prop := atomsJoinedRow.holds Try.pinned (OpenSpec.ofChange atomsJoinedWrong)

/-- 'gantrylaw13.AtomsLits': WHATEVER THE INPUT: true; the input reads as it did. -/
def atomsLitsSpec : ChangeSpec := { name := "atomsLits", fn := fun _ => fun
  | [d1, d2] => { results := [.lit (.bool true)], args := [d1, d2] }
  | _ => none }
def atomsLitsRow : OpenClaim := { program := "ytofcjpfbbeamnaa", sum := "ed31118742b24d3abae18a5809e88e5d3be5620fe55e33a78b4e51e9d13bb334", func := "gantry/gantrylaw13.AtomsLits", spec := "atomsLits", unfollowed := true, recurses := true, plainKeys := false, apart := false }
def AtomsLitsSaid : Prop := atomsLitsRow.holds Try.pinned (OpenSpec.ofChange atomsLitsSpec)

/-- ITS FALSE NEIGHBOUR: 'it returns false'. Refute it at one input. -/
def atomsLitsWrong : ChangeSpec := { name := "atomsLits", fn := fun _ => fun
  | [d1, d2] => { results := [.lit (.bool false)], args := [d1, d2] }
  | _ => none }
def AtomsLitsWrongFalsely : Prop := atomsLitsRow.holds Try.pinned (OpenSpec.ofChange atomsLitsWrong)

/- THE SECOND FORM. 'bulk': how many values and letters a reading holds, each counted each time it is reached (what is shared counts as often as it is met; a slice's spare places count too). A statement '..UptoSaid' is the law's where the arguments, and the package variables that the reading takes, are together of bulk at most 1048576: NARROWER than '..Said'. Prove '..Said' where nothing that the law and all that it calls make is longer than what came in: it says more and counts as full. Else prove '..UptoSaid'. A law counts once. -/
mutual
def uptoBulk {H : Type} : DataW H → Nat
  | .lit (.string bytes) => bytes.length + 1
  | .lit _ => 1
  | .nil => 1
  | .ptr d => uptoBulk d + 1
  | .slice elems spare => uptoBulkAll elems + uptoBulkAll spare + 1
  | .agg parts => uptoBulkAll parts + 1
  | .iface _ d => uptoBulk d + 1
  | .map entries => uptoBulkEntries entries + 1
  | .held _ => 1
def uptoBulkAll {H : Type} : List (DataW H) → Nat
  | [] => 0
  | d :: r => uptoBulk d + uptoBulkAll r
def uptoBulkEntries {H : Type} : List (Lit × DataW H) → Nat
  | [] => 0
  | x :: r => uptoBulkEntry x + uptoBulkEntries r
def uptoBulkEntry {H : Type} : Lit × DataW H → Nat
  | (.string bytes, d) => bytes.length + uptoBulk d + 1
  | (_, d) => uptoBulk d + 1
 end
def uptoSmall : (H : Type) → List (DataW H) → Bool := fun _ ds => decide (uptoBulkAll ds ≤ 1048576)
def OpenSpec.upto (s : _root_.Go.ChangeSpec) : _root_.Go.OpenSpec := { _root_.Go.OpenSpec.ofChange s with cond := some uptoSmall }

/-- 'gantrylaw05.TermOnce', WHERE WHAT IT READS IS OF BULK AT MOST 1048576: true; the input reads as it did. -/
def termOnceUptoRow : OpenClaim := { program := "ytofcjpfbbeamnaa", sum := "ed31118742b24d3abae18a5809e88e5d3be5620fe55e33a78b4e51e9d13bb334", func := "gantry/gantrylaw05.TermOnce", spec := "termOnce", plainKeys := false, apart := false, narrowed := true }
def TermOnceUptoSaid : Prop := termOnceUptoRow.holds Try.pinned (OpenSpec.upto termOnceSpec)

/-- 'gantrylaw05.TermCuts', WHERE WHAT IT READS IS OF BULK AT MOST 1048576: true; the input reads as it did. -/
def termCutsUptoRow : OpenClaim := { program := "ytofcjpfbbeamnaa", sum := "ed31118742b24d3abae18a5809e88e5d3be5620fe55e33a78b4e51e9d13bb334", func := "gantry/gantrylaw05.TermCuts", spec := "termCuts", plainKeys := false, apart := false, narrowed := true }
def TermCutsUptoSaid : Prop := termCutsUptoRow.holds Try.pinned (OpenSpec.upto termCutsSpec)

/-- 'gantrylaw05.TermTrees', WHERE WHAT IT READS IS OF BULK AT MOST 1048576: true; the input reads as it did. -/
def termTreesUptoRow : OpenClaim := { program := "ytofcjpfbbeamnaa", sum := "ed31118742b24d3abae18a5809e88e5d3be5620fe55e33a78b4e51e9d13bb334", func := "gantry/gantrylaw05.TermTrees", spec := "termTrees", unfollowed := true, recurses := true, plainKeys := false, apart := false, narrowed := true }
def TermTreesUptoSaid : Prop := termTreesUptoRow.holds Try.pinned (OpenSpec.upto termTreesSpec)

/-- 'gantrylaw05.TermReaches', WHERE WHAT IT READS IS OF BULK AT MOST 1048576: true; the input reads as it did. -/
def termReachesUptoRow : OpenClaim := { program := "ytofcjpfbbeamnaa", sum := "ed31118742b24d3abae18a5809e88e5d3be5620fe55e33a78b4e51e9d13bb334", func := "gantry/gantrylaw05.TermReaches", spec := "termReaches", unfollowed := true, recurses := true, plainKeys := false, apart := false, narrowed := true }
def TermReachesUptoSaid : Prop := termReachesUptoRow.holds Try.pinned (OpenSpec.upto termReachesSpec)

/-- 'gantrylaw11.OffsetHolds', WHERE WHAT IT READS IS OF BULK AT MOST 1048576: true; the input reads as it did. -/
def offsetHoldsUptoRow : OpenClaim := { program := "ytofcjpfbbeamnaa", sum := "ed31118742b24d3abae18a5809e88e5d3be5620fe55e33a78b4e51e9d13bb334", func := "gantry/gantrylaw11.OffsetHolds", spec := "offsetHolds", unfollowed := true, recurses := true, loops := true, plainKeys := false, apart := false, narrowed := true }
def OffsetHoldsUptoSaid : Prop := offsetHoldsUptoRow.holds Try.pinned (OpenSpec.upto offsetHoldsSpec)

/-- 'gantrylaw11.OffsetOnce', WHERE WHAT IT READS IS OF BULK AT MOST 1048576: true; the input reads as it did. -/
def offsetOnceUptoRow : OpenClaim := { program := "ytofcjpfbbeamnaa", sum := "ed31118742b24d3abae18a5809e88e5d3be5620fe55e33a78b4e51e9d13bb334", func := "gantry/gantrylaw11.OffsetOnce", spec := "offsetOnce", unfollowed := true, recurses := true, plainKeys := false, apart := false, narrowed := true }
def OffsetOnceUptoSaid : Prop := offsetOnceUptoRow.holds Try.pinned (OpenSpec.upto offsetOnceSpec)

/-- 'gantrylaw11.OffsetTurns', WHERE WHAT IT READS IS OF BULK AT MOST 1048576: true; the input reads as it did. -/
def offsetTurnsUptoRow : OpenClaim := { program := "ytofcjpfbbeamnaa", sum := "ed31118742b24d3abae18a5809e88e5d3be5620fe55e33a78b4e51e9d13bb334", func := "gantry/gantrylaw11.OffsetTurns", spec := "offsetTurns", unfollowed := true, recurses := true, plainKeys := false, apart := false, narrowed := true }
def OffsetTurnsUptoSaid : Prop := offsetTurnsUptoRow.holds Try.pinned (OpenSpec.upto offsetTurnsSpec)

/-- 'gantrylaw11.OffsetBack', WHERE WHAT IT READS IS OF BULK AT MOST 1048576: true; the input reads as it did. -/
def offsetBackUptoRow : OpenClaim := { program := "ytofcjpfbbeamnaa", sum := "ed31118742b24d3abae18a5809e88e5d3be5620fe55e33a78b4e51e9d13bb334", func := "gantry/gantrylaw11.OffsetBack", spec := "offsetBack", unfollowed := true, recurses := true, plainKeys := false, apart := false, narrowed := true }
def OffsetBackUptoSaid : Prop := offsetBackUptoRow.holds Try.pinned (OpenSpec.upto offsetBackSpec)

/-- 'gantrylaw13.AtomsJoined', WHERE WHAT IT READS IS OF BULK AT MOST 1048576: true; the input reads as it did. -/
def atomsJoinedUptoRow : OpenClaim := { program := "ytofcjpfbbeamnaa", sum := "ed31118742b24d3abae18a5809e88e5d3be5620fe55e33a78b4e51e9d13bb334", func := "gantry/gantrylaw13.AtomsJoined", spec := "atomsJoined", unfollowed := true, recurses := true, plainKeys := false, apart := false, narrowed := true }
def AtomsJoinedUptoSaid : Prop := atomsJoinedUptoRow.holds Try.pinned (OpenSpec.upto atomsJoinedSpec)

/-- 'gantrylaw13.AtomsLits', WHERE WHAT IT READS IS OF BULK AT MOST 1048576: true; the input reads as it did. -/
def atomsLitsUptoRow : OpenClaim := { program := "ytofcjpfbbeamnaa", sum := "ed31118742b24d3abae18a5809e88e5d3be5620fe55e33a78b4e51e9d13bb334", func := "gantry/gantrylaw13.AtomsLits", spec := "atomsLits", unfollowed := true, recurses := true, plainKeys := false, apart := false, narrowed := true }
def AtomsLitsUptoSaid : Prop := atomsLitsUptoRow.holds Try.pinned (OpenSpec.upto atomsLitsSpec)

end Rows
end Go.Proofs.Ytofcjpfbbeamnaa
