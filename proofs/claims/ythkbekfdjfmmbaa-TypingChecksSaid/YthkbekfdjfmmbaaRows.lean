/-
  NARROWER THAN 'FOR EVERY INPUT', by the rows' own cells (each row's printed sentence says how): SigTwice: loops · SigGrows: loops · TypingTells: loops · TypingChecks: loops · TypingMakes: loops · TypingGrows: loops.
  DERIVED. THE GIVEN ROWS OF THIS SEAT. 7 by the template 'for every input the law returns true; each argument reads behind the call as it read before'; 0 by the template 'total and deterministic' (their statements: YthkbekfdjfmmbaaTotals.lean).
  GIVEN WITH THE SEED: the statements are not yours to turn. If you find one false, say at which input.
  Laid BY PROGRAM, IN A SANDBOX (cutbox-rows.mjs): the forced cells as the released guide's own fill.sh prints them over the translation 42894d667c5a1781… (all of the seat's roots in one cut). By AI agents, Wed Nov 11 2026. No macro, syntax, notation, axiom, sorry.
-/
import Derived.Test.YthkbekfdjfmmbaaChecked
import GoSem.Claim
import GoSem.ClaimJoined
import GoSem.ClaimMapViews
import Derived.JoinedTies
import Derived.KernelRfl
namespace Go.Proofs.Ythkbekfdjfmmbaa
/- THE CELL 'sum', in the pinned program and in every row, IS THE sha256 OF THE DUMP (.gsa) THAT YthkbekfdjfmmbaaProg.lean LOADS. Nothing in Lean hashes anything: it is a label: what it is worth is what the hold of that sum in a sandbox is worth. -/
noncomputable def Try.pinned : Pinned := { name := "ythkbekfdjfmmbaa", sum := "42894d667c5a178171b78622551346a00079f6989ea1e0280058e95479c7d425", checked := Try.checked }
namespace Rows
def none {H : Type} : Left H := { results := [], args := [] }

/-- 'gantrylaw04.SigTwice': WHATEVER THE INPUT: true; the input reads as it did. -/
def sigTwiceSpec : ChangeSpec := { name := "sigTwice", fn := fun _ => fun
  | [d1, d2, d3] => { results := [.lit (.bool true)], args := [d1, d2, d3] }
  | _ => none }
def sigTwiceRow : OpenClaim := { program := "ythkbekfdjfmmbaa", sum := "42894d667c5a178171b78622551346a00079f6989ea1e0280058e95479c7d425", func := "gantry/gantrylaw04.SigTwice", spec := "sigTwice", unfollowed := true, recurses := true, loops := true, plainKeys := false, apart := false }
def SigTwiceSaid : Prop := sigTwiceRow.holds Try.pinned (OpenSpec.ofChange sigTwiceSpec)

/-- ITS FALSE NEIGHBOUR: 'it returns false'. Refute it at one input. -/
def sigTwiceWrong : ChangeSpec := { name := "sigTwice", fn := fun _ => fun
  | [d1, d2, d3] => { results := [.lit (.bool false)], args := [d1, d2, d3] }
  | _ => none }
def SigTwiceWrongFalsely : Prop := sigTwiceRow.holds Try.pinned (OpenSpec.ofChange sigTwiceWrong)

/-- 'gantrylaw04.SigGrows': WHATEVER THE INPUT: true; the input reads as it did. -/
def sigGrowsSpec : ChangeSpec := { name := "sigGrows", fn := fun _ => fun
  | [d1, d2, d3, d4] => { results := [.lit (.bool true)], args := [d1, d2, d3, d4] }
  | _ => none }
def sigGrowsRow : OpenClaim := { program := "ythkbekfdjfmmbaa", sum := "42894d667c5a178171b78622551346a00079f6989ea1e0280058e95479c7d425", func := "gantry/gantrylaw04.SigGrows", spec := "sigGrows", unfollowed := true, recurses := true, loops := true, plainKeys := false, apart := false }
def SigGrowsSaid : Prop := sigGrowsRow.holds Try.pinned (OpenSpec.ofChange sigGrowsSpec)

/-- ITS FALSE NEIGHBOUR: 'it returns false'. Refute it at one input. -/
def sigGrowsWrong : ChangeSpec := { name := "sigGrows", fn := fun _ => fun
  | [d1, d2, d3, d4] => { results := [.lit (.bool false)], args := [d1, d2, d3, d4] }
  | _ => none }
def SigGrowsWrongFalsely : Prop := sigGrowsRow.holds Try.pinned (OpenSpec.ofChange sigGrowsWrong)

/-- 'gantrylaw06.TypingTells': WHATEVER THE INPUT: true; the input reads as it did. -/
def typingTellsSpec : ChangeSpec := { name := "typingTells", fn := fun _ => fun
  | [d1, d2, d3, d4] => { results := [.lit (.bool true)], args := [d1, d2, d3, d4] }
  | _ => none }
def typingTellsRow : OpenClaim := { program := "ythkbekfdjfmmbaa", sum := "42894d667c5a178171b78622551346a00079f6989ea1e0280058e95479c7d425", func := "gantry/gantrylaw06.TypingTells", spec := "typingTells", unfollowed := true, recurses := true, loops := true, plainKeys := false, apart := false }
def TypingTellsSaid : Prop := typingTellsRow.holds Try.pinned (OpenSpec.ofChange typingTellsSpec)

/-- ITS FALSE NEIGHBOUR: 'it returns false'. Refute it at one input. -/
def typingTellsWrong : ChangeSpec := { name := "typingTells", fn := fun _ => fun
  | [d1, d2, d3, d4] => { results := [.lit (.bool false)], args := [d1, d2, d3, d4] }
  | _ => none }
def TypingTellsWrongFalsely : Prop := typingTellsRow.holds Try.pinned (OpenSpec.ofChange typingTellsWrong)

/-- 'gantrylaw06.TypingTurns': WHATEVER THE INPUT: true; the input reads as it did. -/
def typingTurnsSpec : ChangeSpec := { name := "typingTurns", fn := fun _ => fun
  | [d1, d2, d3, d4] => { results := [.lit (.bool true)], args := [d1, d2, d3, d4] }
  | _ => none }
def typingTurnsRow : OpenClaim := { program := "ythkbekfdjfmmbaa", sum := "42894d667c5a178171b78622551346a00079f6989ea1e0280058e95479c7d425", func := "gantry/gantrylaw06.TypingTurns", spec := "typingTurns", unfollowed := true, recurses := true, plainKeys := false, apart := false }
def TypingTurnsSaid : Prop := typingTurnsRow.holds Try.pinned (OpenSpec.ofChange typingTurnsSpec)

/-- ITS FALSE NEIGHBOUR: 'it returns false'. Refute it at one input. -/
def typingTurnsWrong : ChangeSpec := { name := "typingTurns", fn := fun _ => fun
  | [d1, d2, d3, d4] => { results := [.lit (.bool false)], args := [d1, d2, d3, d4] }
  | _ => none }
def TypingTurnsWrongFalsely : Prop := typingTurnsRow.holds Try.pinned (OpenSpec.ofChange typingTurnsWrong)

/-- 'gantrylaw06.TypingChecks': WHATEVER THE INPUT: true; the input reads as it did. -/
def typingChecksSpec : ChangeSpec := { name := "typingChecks", fn := fun _ => fun
  | [d1, d2, d3] => { results := [.lit (.bool true)], args := [d1, d2, d3] }
  | _ => none }
def typingChecksRow : OpenClaim := { program := "ythkbekfdjfmmbaa", sum := "42894d667c5a178171b78622551346a00079f6989ea1e0280058e95479c7d425", func := "gantry/gantrylaw06.TypingChecks", spec := "typingChecks", unfollowed := true, recurses := true, loops := true, plainKeys := false, apart := false }
def TypingChecksSaid : Prop := typingChecksRow.holds Try.pinned (OpenSpec.ofChange typingChecksSpec)

/-- ITS FALSE NEIGHBOUR: 'it returns false'. Refute it at one input. -/
def typingChecksWrong : ChangeSpec := { name := "typingChecks", fn := fun _ => fun
  | [d1, d2, d3] => { results := [.lit (.bool false)], args := [d1, d2, d3] }
  | _ => none }
def TypingChecksWrongFalsely : Prop := typingChecksRow.holds Try.pinned (OpenSpec.ofChange typingChecksWrong)

/-- 'gantrylaw06.TypingMakes': WHATEVER THE INPUT: true; the input reads as it did. -/
def typingMakesSpec : ChangeSpec := { name := "typingMakes", fn := fun _ => fun
  | [d1, d2, d3, d4, d5, d6] => { results := [.lit (.bool true)], args := [d1, d2, d3, d4, d5, d6] }
  | _ => none }
def typingMakesRow : OpenClaim := { program := "ythkbekfdjfmmbaa", sum := "42894d667c5a178171b78622551346a00079f6989ea1e0280058e95479c7d425", func := "gantry/gantrylaw06.TypingMakes", spec := "typingMakes", unfollowed := true, recurses := true, loops := true, plainKeys := false, apart := false }
def TypingMakesSaid : Prop := typingMakesRow.holds Try.pinned (OpenSpec.ofChange typingMakesSpec)

/-- ITS FALSE NEIGHBOUR: 'it returns false'. Refute it at one input. -/
def typingMakesWrong : ChangeSpec := { name := "typingMakes", fn := fun _ => fun
  | [d1, d2, d3, d4, d5, d6] => { results := [.lit (.bool false)], args := [d1, d2, d3, d4, d5, d6] }
  | _ => none }
def TypingMakesWrongFalsely : Prop := typingMakesRow.holds Try.pinned (OpenSpec.ofChange typingMakesWrong)

/-- 'gantrylaw06.TypingGrows': WHATEVER THE INPUT: true; the input reads as it did. -/
def typingGrowsSpec : ChangeSpec := { name := "typingGrows", fn := fun _ => fun
  | [d1, d2, d3, d4, d5, d6] => { results := [.lit (.bool true)], args := [d1, d2, d3, d4, d5, d6] }
  | _ => none }
def typingGrowsRow : OpenClaim := { program := "ythkbekfdjfmmbaa", sum := "42894d667c5a178171b78622551346a00079f6989ea1e0280058e95479c7d425", func := "gantry/gantrylaw06.TypingGrows", spec := "typingGrows", unfollowed := true, recurses := true, loops := true, plainKeys := false, apart := false }
def TypingGrowsSaid : Prop := typingGrowsRow.holds Try.pinned (OpenSpec.ofChange typingGrowsSpec)

/-- ITS FALSE NEIGHBOUR: 'it returns false'. Refute it at one input. -/
def typingGrowsWrong : ChangeSpec := { name := "typingGrows", fn := fun _ => fun
  | [d1, d2, d3, d4, d5, d6] => { results := [.lit (.bool false)], args := [d1, d2, d3, d4, d5, d6] }
  | _ => none }
def TypingGrowsWrongFalsely : Prop := typingGrowsRow.holds Try.pinned (OpenSpec.ofChange typingGrowsWrong)

/- THE SECOND FORM. 'bulk': how many values and letters a reading holds, each counted each time it is reached (what is shared counts as often as it is met; a slice's spare places count too). A statement '..UptoSaid' is the law's where the arguments, and the package variables that the reading takes, are together of bulk at most 1048576: NARROWER than '..Said'. Prove '..Said' where nothing that the law and all that it calls make is longer than what came in: it says more and counts as full. Else prove '..UptoSaid'. A law counts once. -/
mutual
def uptoBulk {H : Type} : DataW H → Nat
  | .lit (.string bytes) => bytes.length + 1
  | .lit _ => 1
  | .nil => 1
  | .ptr d => uptoBulk d + 1
  | .slice elems spare => uptoBulkAll elems + uptoBulkAll spare + 1
  | .agg parts => uptoBulkAll parts + 1
  | .iface _ d => uptoBulk d + 1
  | .map entries => uptoBulkEntries entries + 1
  | .held _ => 1
def uptoBulkAll {H : Type} : List (DataW H) → Nat
  | [] => 0
  | d :: r => uptoBulk d + uptoBulkAll r
def uptoBulkEntries {H : Type} : List (Lit × DataW H) → Nat
  | [] => 0
  | x :: r => uptoBulkEntry x + uptoBulkEntries r
def uptoBulkEntry {H : Type} : Lit × DataW H → Nat
  | (.string bytes, d) => bytes.length + uptoBulk d + 1
  | (_, d) => uptoBulk d + 1
 end
def uptoSmall : (H : Type) → List (DataW H) → Bool := fun _ ds => decide (uptoBulkAll ds ≤ 1048576)
def OpenSpec.upto (s : _root_.Go.ChangeSpec) : _root_.Go.OpenSpec := { _root_.Go.OpenSpec.ofChange s with cond := some uptoSmall }

/-- 'gantrylaw04.SigTwice', WHERE WHAT IT READS IS OF BULK AT MOST 1048576: true; the input reads as it did. -/
def sigTwiceUptoRow : OpenClaim := { program := "ythkbekfdjfmmbaa", sum := "42894d667c5a178171b78622551346a00079f6989ea1e0280058e95479c7d425", func := "gantry/gantrylaw04.SigTwice", spec := "sigTwice", unfollowed := true, recurses := true, loops := true, plainKeys := false, apart := false, narrowed := true }
def SigTwiceUptoSaid : Prop := sigTwiceUptoRow.holds Try.pinned (OpenSpec.upto sigTwiceSpec)

/-- 'gantrylaw04.SigGrows', WHERE WHAT IT READS IS OF BULK AT MOST 1048576: true; the input reads as it did. -/
def sigGrowsUptoRow : OpenClaim := { program := "ythkbekfdjfmmbaa", sum := "42894d667c5a178171b78622551346a00079f6989ea1e0280058e95479c7d425", func := "gantry/gantrylaw04.SigGrows", spec := "sigGrows", unfollowed := true, recurses := true, loops := true, plainKeys := false, apart := false, narrowed := true }
def SigGrowsUptoSaid : Prop := sigGrowsUptoRow.holds Try.pinned (OpenSpec.upto sigGrowsSpec)

/-- 'gantrylaw06.TypingTells', WHERE WHAT IT READS IS OF BULK AT MOST 1048576: true; the input reads as it did. -/
def typingTellsUptoRow : OpenClaim := { program := "ythkbekfdjfmmbaa", sum := "42894d667c5a178171b78622551346a00079f6989ea1e0280058e95479c7d425", func := "gantry/gantrylaw06.TypingTells", spec := "typingTells", unfollowed := true, recurses := true, loops := true, plainKeys := false, apart := false, narrowed := true }
def TypingTellsUptoSaid : Prop := typingTellsUptoRow.holds Try.pinned (OpenSpec.upto typingTellsSpec)

/-- 'gantrylaw06.TypingTurns', WHERE WHAT IT READS IS OF BULK AT MOST 1048576: true; the input reads as it did. -/
def typingTurnsUptoRow : OpenClaim := { program := "ythkbekfdjfmmbaa", sum := "42894d667c5a178171b78622551346a00079f6989ea1e0280058e95479c7d425", func := "gantry/gantrylaw06.TypingTurns", spec := "typingTurns", unfollowed := true, recurses := true, plainKeys := false, apart := false, narrowed := true }
def TypingTurnsUptoSaid : Prop := typingTurnsUptoRow.holds Try.pinned (OpenSpec.upto typingTurnsSpec)

/-- 'gantrylaw06.TypingChecks', WHERE WHAT IT READS IS OF BULK AT MOST 1048576: true; the input reads as it did. -/
def typingChecksUptoRow : OpenClaim := { program := "ythkbekfdjfmmbaa", sum := "42894d667c5a178171b78622551346a00079f6989ea1e0280058e95479c7d425", func := "gantry/gantrylaw06.TypingChecks", spec := "typingChecks", unfollowed := true, recurses := true, loops := true, plainKeys := false, apart := false, narrowed := true }
def TypingChecksUptoSaid : Prop := typingChecksUptoRow.holds Try.pinned (OpenSpec.upto typingChecksSpec)

/-- 'gantrylaw06.TypingMakes', WHERE WHAT IT READS IS OF BULK AT MOST 1048576: true; the input reads as it did. -/
def typingMakesUptoRow : OpenClaim := { program := "ythkbekfdjfmmbaa", sum := "42894d667c5a178171b78622551346a00079f6989ea1e0280058e95479c7d425", func := "gantry/gantrylaw06.TypingMakes", spec := "typingMakes", unfollowed := true, recurses := true, loops := true, plainKeys := false, apart := false, narrowed := true }
def TypingMakesUptoSaid : Prop := typingMakesUptoRow.holds Try.pinned (OpenSpec.upto typingMakesSpec)

/-- 'gantrylaw06.TypingGrows', WHERE WHAT IT READS IS OF BULK AT MOST 1048576: true; the input reads as it did. -/
def typingGrowsUptoRow : OpenClaim := { program := "ythkbekfdjfmmbaa", sum := "42894d667c5a178171b78622551346a00079f6989ea1e0280058e95479c7d425", func := "gantry/gantrylaw06.TypingGrows", spec := "typingGrows", unfollowed := true, recurses := true, loops := true, plainKeys := false, apart := false, narrowed := true }
def TypingGrowsUptoSaid : Prop := typingGrowsUptoRow.holds Try.pinned (OpenSpec.upto typingGrowsSpec)

end Rows
end Go.Proofs.Ythkbekfdjfmmbaa
