/-
  No cell of these rows narrows 'for every input' (looked for: loops, veiled, ifaces, maps, wideKeys, modest, calm, conditions, laid).
  DERIVED. THE GIVEN ROWS OF THIS SEAT. 3 by the template 'for every input the law returns true; each argument reads behind the call as it read before'; 0 by the template 'total and deterministic' (their statements: YtecmoahadckomaaTotals.lean).
  GIVEN WITH THE SEED: the statements are not yours to turn. If you find one false, say at which input.
  Laid BY PROGRAM, IN A SANDBOX (cutbox-rows.mjs): the forced cells as the released guide's own fill.sh prints them over the translation 22b44eb32a9f7142… (all of the seat's roots in one cut). By AI agents, Wed Nov 11 2026. No macro, syntax, notation, axiom, sorry.
-/
import Derived.Test.YtecmoahadckomaaChecked
import GoSem.Claim
import GoSem.ClaimJoined
import GoSem.ClaimMapViews
import Derived.JoinedTies
import Derived.KernelRfl
namespace Go.Proofs.Ytecmoahadckomaa
/- THE CELL 'sum', in the pinned program and in every row, IS THE sha256 OF THE DUMP (.gsa) THAT YtecmoahadckomaaProg.lean LOADS. Nothing in Lean hashes anything: it is a label: what it is worth is what the hold of that sum in a sandbox is worth. -/
noncomputable def Try.pinned : Pinned := { name := "ytecmoahadckomaa", sum := "22b44eb32a9f71421dfe0a2d5ac0d33e8deee486529ed5c63a351cdf7ad9bf1e", checked := Try.checked }
namespace Rows
def none {H : Type} : Left H := { results := [], args := [] }

/-- 'gantrylaw12.CoreMakes': WHATEVER THE INPUT: true; the input reads as it did. -/
def coreMakesSpec : ChangeSpec := { name := "coreMakes", fn := fun _ => fun
  | [d1, d2, d3] => { results := [.lit (.bool true)], args := [d1, d2, d3] }
  | _ => none }
def coreMakesRow : OpenClaim := { program := "ytecmoahadckomaa", sum := "22b44eb32a9f71421dfe0a2d5ac0d33e8deee486529ed5c63a351cdf7ad9bf1e", func := "gantry/gantrylaw12.CoreMakes", spec := "coreMakes", unfollowed := true, recurses := true, plainKeys := false, apart := false }
def CoreMakesSaid : Prop := coreMakesRow.holds Try.pinned (OpenSpec.ofChange coreMakesSpec)

/-- ITS FALSE NEIGHBOUR: 'it returns false'. Refute it at one input. -/
def coreMakesWrong : ChangeSpec := { name := "coreMakes", fn := fun _ => fun
  | [d1, d2, d3] => { results := [.lit (.bool false)], args := [d1, d2, d3] }
  | _ => none }
def CoreMakesWrongFalsely : Prop := coreMakesRow.holds Try.pinned (OpenSpec.ofChange coreMakesWrong)

/-- 'gantrylaw12.CoreAgain': WHATEVER THE INPUT: true; the input reads as it did. -/
def coreAgainSpec : ChangeSpec := { name := "coreAgain", fn := fun _ => fun
  | [d1, d2] => { results := [.lit (.bool true)], args := [d1, d2] }
  | _ => none }
def coreAgainRow : OpenClaim := { program := "ytecmoahadckomaa", sum := "22b44eb32a9f71421dfe0a2d5ac0d33e8deee486529ed5c63a351cdf7ad9bf1e", func := "gantry/gantrylaw12.CoreAgain", spec := "coreAgain", unfollowed := true, recurses := true, plainKeys := false, apart := false }
def CoreAgainSaid : Prop := coreAgainRow.holds Try.pinned (OpenSpec.ofChange coreAgainSpec)

/-- ITS FALSE NEIGHBOUR: 'it returns false'. Refute it at one input. -/
def coreAgainWrong : ChangeSpec := { name := "coreAgain", fn := fun _ => fun
  | [d1, d2] => { results := [.lit (.bool false)], args := [d1, d2] }
  | _ => none }
def CoreAgainWrongFalsely : Prop := coreAgainRow.holds Try.pinned (OpenSpec.ofChange coreAgainWrong)

/-- 'gantrylaw12.CoreOffsets': WHATEVER THE INPUT: true; the input reads as it did. -/
def coreOffsetsSpec : ChangeSpec := { name := "coreOffsets", fn := fun _ => fun
  | [d1, d2] => { results := [.lit (.bool true)], args := [d1, d2] }
  | _ => none }
def coreOffsetsRow : OpenClaim := { program := "ytecmoahadckomaa", sum := "22b44eb32a9f71421dfe0a2d5ac0d33e8deee486529ed5c63a351cdf7ad9bf1e", func := "gantry/gantrylaw12.CoreOffsets", spec := "coreOffsets", unfollowed := true, recurses := true, plainKeys := false, apart := false }
def CoreOffsetsSaid : Prop := coreOffsetsRow.holds Try.pinned (OpenSpec.ofChange coreOffsetsSpec)

/-- ITS FALSE NEIGHBOUR: 'it returns false'. Refute it at one input. -/
def coreOffsetsWrong : ChangeSpec := { name := "coreOffsets", fn := fun _ => fun
  | [d1, d2] => { results := [.lit (.bool false)], args := [d1, d2] }
  | _ => none }
def CoreOffsetsWrongFalsely : Prop := coreOffsetsRow.holds Try.pinned (OpenSpec.ofChange coreOffsetsWrong)

/- THE SECOND FORM. 'bulk': how many values and letters a reading holds, each counted each time it is reached (what is shared counts as often as it is met; a slice's spare places count too). A statement '..UptoSaid' is the law's where the arguments, and the package variables that the reading takes, are together of bulk at most 1048576: NARROWER than '..Said'. Prove '..Said' where nothing that the law and all that it calls make is longer than what came in: it says more and counts as full. Else prove '..UptoSaid'. A law counts once. -/
mutual
def uptoBulk {H : Type} : DataW H → Nat
  | .lit (.string bytes) => bytes.length + 1
  | .lit _ => 1
  | .nil => 1
  | .ptr d => uptoBulk d + 1
  | .slice elems spare => uptoBulkAll elems + uptoBulkAll spare + 1
  | .agg parts => uptoBulkAll parts + 1
  | .iface _ d => uptoBulk d + 1
  | .map entries => uptoBulkEntries entries + 1
  | .held _ => 1
def uptoBulkAll {H : Type} : List (DataW H) → Nat
  | [] => 0
  | d :: r => uptoBulk d + uptoBulkAll r
def uptoBulkEntries {H : Type} : List (Lit × DataW H) → Nat
  | [] => 0
  | x :: r => uptoBulkEntry x + uptoBulkEntries r
def uptoBulkEntry {H : Type} : Lit × DataW H → Nat
  | (.string bytes, d) => bytes.length + uptoBulk d + 1
  | (_, d) => uptoBulk d + 1
 end
def uptoSmall : (H : Type) → List (DataW H) → Bool := fun _ ds => decide (uptoBulkAll ds ≤ 1048576)
def OpenSpec.upto (s : _root_.Go.ChangeSpec) : _root_.Go.OpenSpec := { _root_.Go.OpenSpec.ofChange s with cond := some uptoSmall }

/-- 'gantrylaw12.CoreMakes', WHERE WHAT IT READS IS OF BULK AT MOST 1048576: true; the input reads as it did. -/
def coreMakesUptoRow : OpenClaim := { program := "ytecmoahadckomaa", sum := "22b44eb32a9f71421dfe0a2d5ac0d33e8deee486529ed5c63a351cdf7ad9bf1e", func := "gantry/gantrylaw12.CoreMakes", spec := "coreMakes", unfollowed := true, recurses := true, plainKeys := false, apart := false, narrowed := true }
def CoreMakesUptoSaid : Prop := coreMakesUptoRow.holds Try.pinned (OpenSpec.upto coreMakesSpec)

/-- 'gantrylaw12.CoreAgain', WHERE WHAT IT READS IS OF BULK AT MOST 1048576: true; the input reads as it did. -/
def coreAgainUptoRow : OpenClaim := { program := "ytecmoahadckomaa", sum := "22b44eb32a9f71421dfe0a2d5ac0d33e8deee486529ed5c63a351cdf7ad9bf1e", func := "gantry/gantrylaw12.CoreAgain", spec := "coreAgain", unfollowed := true, recurses := true, plainKeys := false, apart := false, narrowed := true }
def CoreAgainUptoSaid : Prop := coreAgainUptoRow.holds Try.pinned (OpenSpec.upto coreAgainSpec)

/-- 'gantrylaw12.CoreOffsets', WHERE WHAT IT READS IS OF BULK AT MOST 1048576: true; the input reads as it did. -/
def coreOffsetsUptoRow : OpenClaim := { program := "ytecmoahadckomaa", sum := "22b44eb32a9f71421dfe0a2d5ac0d33e8deee486529ed5c63a351cdf7ad9bf1e", func := "gantry/gantrylaw12.CoreOffsets", spec := "coreOffsets", unfollowed := true, recurses := true, plainKeys := false, apart := false, narrowed := true }
def CoreOffsetsUptoSaid : Prop := coreOffsetsUptoRow.holds Try.pinned (OpenSpec.upto coreOffsetsSpec)

end Rows
end Go.Proofs.Ytecmoahadckomaa
