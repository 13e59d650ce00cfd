/-
  NARROWER THAN 'FOR EVERY INPUT', by the rows' own cells (each row's printed sentence says how): IdlHolds: loops.
  DERIVED. THE GIVEN ROWS OF THIS SEAT. 4 by the template 'for every input the law returns true; each argument reads behind the call as it read before'; 0 by the template 'total and deterministic' (their statements: YtioceechdombjaaTotals.lean).
  GIVEN WITH THE SEED: the statements are not yours to turn. If you find one false, say at which input.
  Laid BY PROGRAM, IN A SANDBOX (cutbox-rows.mjs): the forced cells as the released guide's own fill.sh prints them over the translation 84132f6167c8abf8… (all of the seat's roots in one cut). By AI agents, Wed Nov 11 2026. No macro, syntax, notation, axiom, sorry.
-/
import Derived.Test.YtioceechdombjaaChecked
import GoSem.Claim
import GoSem.ClaimJoined
import GoSem.ClaimMapViews
import Derived.JoinedTies
import Derived.KernelRfl
namespace Go.Proofs.Ytioceechdombjaa
/- THE CELL 'sum', in the pinned program and in every row, IS THE sha256 OF THE DUMP (.gsa) THAT YtioceechdombjaaProg.lean LOADS. Nothing in Lean hashes anything: it is a label: what it is worth is what the hold of that sum in a sandbox is worth. -/
noncomputable def Try.pinned : Pinned := { name := "ytioceechdombjaa", sum := "84132f6167c8abf8076bb13c114823f224f7701c2569be41e63ea39027f156e4", checked := Try.checked }
namespace Rows
def none {H : Type} : Left H := { results := [], args := [] }

/-- 'gantrylaw25.IdlHolds': WHATEVER THE INPUT: true; the input reads as it did. -/
def idlHoldsSpec : ChangeSpec := { name := "idlHolds", fn := fun _ => fun
  | [d1, d2, d3, d4] => { results := [.lit (.bool true)], args := [d1, d2, d3, d4] }
  | _ => none }
def idlHoldsRow : OpenClaim := { program := "ytioceechdombjaa", sum := "84132f6167c8abf8076bb13c114823f224f7701c2569be41e63ea39027f156e4", func := "gantry/gantrylaw25.IdlHolds", spec := "idlHolds", unfollowed := true, recurses := true, loops := true, plainKeys := false, apart := false }
def IdlHoldsSaid : Prop := idlHoldsRow.holds Try.pinned (OpenSpec.ofChange idlHoldsSpec)

/-- ITS FALSE NEIGHBOUR: 'it returns false'. Refute it at one input. -/
def idlHoldsWrong : ChangeSpec := { name := "idlHolds", fn := fun _ => fun
  | [d1, d2, d3, d4] => { results := [.lit (.bool false)], args := [d1, d2, d3, d4] }
  | _ => none }
def IdlHoldsWrongFalsely : Prop := idlHoldsRow.holds Try.pinned (OpenSpec.ofChange idlHoldsWrong)

/-- 'gantrylaw25.IdlNumbers': WHATEVER THE INPUT: true; the input reads as it did. -/
def idlNumbersSpec : ChangeSpec := { name := "idlNumbers", fn := fun _ => fun
  | [d1, d2] => { results := [.lit (.bool true)], args := [d1, d2] }
  | _ => none }
def idlNumbersRow : OpenClaim := { program := "ytioceechdombjaa", sum := "84132f6167c8abf8076bb13c114823f224f7701c2569be41e63ea39027f156e4", func := "gantry/gantrylaw25.IdlNumbers", spec := "idlNumbers", unfollowed := true, recurses := true, plainKeys := false, apart := false }
def IdlNumbersSaid : Prop := idlNumbersRow.holds Try.pinned (OpenSpec.ofChange idlNumbersSpec)

/-- ITS FALSE NEIGHBOUR: 'it returns false'. Refute it at one input. -/
def idlNumbersWrong : ChangeSpec := { name := "idlNumbers", fn := fun _ => fun
  | [d1, d2] => { results := [.lit (.bool false)], args := [d1, d2] }
  | _ => none }
def IdlNumbersWrongFalsely : Prop := idlNumbersRow.holds Try.pinned (OpenSpec.ofChange idlNumbersWrong)

/-- 'gantrylaw25.IdlConflict': WHATEVER THE INPUT: true; the input reads as it did. -/
def idlConflictSpec : ChangeSpec := { name := "idlConflict", fn := fun _ => fun
  | [d1, d2, d3] => { results := [.lit (.bool true)], args := [d1, d2, d3] }
  | _ => none }
def idlConflictRow : OpenClaim := { program := "ytioceechdombjaa", sum := "84132f6167c8abf8076bb13c114823f224f7701c2569be41e63ea39027f156e4", func := "gantry/gantrylaw25.IdlConflict", spec := "idlConflict", unfollowed := true, recurses := true, plainKeys := false, apart := false }
def IdlConflictSaid : Prop := idlConflictRow.holds Try.pinned (OpenSpec.ofChange idlConflictSpec)

/-- ITS FALSE NEIGHBOUR: 'it returns false'. Refute it at one input. -/
def idlConflictWrong : ChangeSpec := { name := "idlConflict", fn := fun _ => fun
  | [d1, d2, d3] => { results := [.lit (.bool false)], args := [d1, d2, d3] }
  | _ => none }
def IdlConflictWrongFalsely : Prop := idlConflictRow.holds Try.pinned (OpenSpec.ofChange idlConflictWrong)

/-- 'gantrylaw25.IdlMore': WHATEVER THE INPUT: true; the input reads as it did. -/
def idlMoreSpec : ChangeSpec := { name := "idlMore", fn := fun _ => fun
  | [d1, d2] => { results := [.lit (.bool true)], args := [d1, d2] }
  | _ => none }
def idlMoreRow : OpenClaim := { program := "ytioceechdombjaa", sum := "84132f6167c8abf8076bb13c114823f224f7701c2569be41e63ea39027f156e4", func := "gantry/gantrylaw25.IdlMore", spec := "idlMore", unfollowed := true, recurses := true, plainKeys := false, apart := false }
def IdlMoreSaid : Prop := idlMoreRow.holds Try.pinned (OpenSpec.ofChange idlMoreSpec)

/-- ITS FALSE NEIGHBOUR: 'it returns false'. Refute it at one input. -/
def idlMoreWrong : ChangeSpec := { name := "idlMore", fn := fun _ => fun
  | [d1, d2] => { results := [.lit (.bool false)], args := [d1, d2] }
  | _ => none }
def IdlMoreWrongFalsely : Prop := idlMoreRow.holds Try.pinned (OpenSpec.ofChange idlMoreWrong)

/- THE SECOND FORM. 'bulk': how many values and letters a reading holds, each counted each time it is reached (what is shared counts as often as it is met; a slice's spare places count too). A statement '..UptoSaid' is the law's where the arguments, and the package variables that the reading takes, are together of bulk at most 1048576: NARROWER than '..Said'. Prove '..Said' where nothing that the law and all that it calls make is longer than what came in: it says more and counts as full. Else prove '..UptoSaid'. A law counts once. -/
mutual
def uptoBulk {H : Type} : DataW H → Nat
  | .lit (.string bytes) => bytes.length + 1
  | .lit _ => 1
  | .nil => 1
  | .ptr d => uptoBulk d + 1
  | .slice elems spare => uptoBulkAll elems + uptoBulkAll spare + 1
  | .agg parts => uptoBulkAll parts + 1
  | .iface _ d => uptoBulk d + 1
  | .map entries => uptoBulkEntries entries + 1
  | .held _ => 1
def uptoBulkAll {H : Type} : List (DataW H) → Nat
  | [] => 0
  | d :: r => uptoBulk d + uptoBulkAll r
def uptoBulkEntries {H : Type} : List (Lit × DataW H) → Nat
  | [] => 0
  | x :: r => uptoBulkEntry x + uptoBulkEntries r
def uptoBulkEntry {H : Type} : Lit × DataW H → Nat
  | (.string bytes, d) => bytes.length + uptoBulk d + 1
  | (_, d) => uptoBulk d + 1
 end
def uptoSmall : (H : Type) → List (DataW H) → Bool := fun _ ds => decide (uptoBulkAll ds ≤ 1048576)
def OpenSpec.upto (s : _root_.Go.ChangeSpec) : _root_.Go.OpenSpec := { _root_.Go.OpenSpec.ofChange s with cond := some uptoSmall }

/-- 'gantrylaw25.IdlHolds', WHERE WHAT IT READS IS OF BULK AT MOST 1048576: true; the input reads as it did. -/
def idlHoldsUptoRow : OpenClaim := { program := "ytioceechdombjaa", sum := "84132f6167c8abf8076bb13c114823f224f7701c2569be41e63ea39027f156e4", func := "gantry/gantrylaw25.IdlHolds", spec := "idlHolds", unfollowed := true, recurses := true, loops := true, plainKeys := false, apart := false, narrowed := true }
def IdlHoldsUptoSaid : Prop := idlHoldsUptoRow.holds Try.pinned (OpenSpec.upto idlHoldsSpec)

/-- 'gantrylaw25.IdlNumbers', WHERE WHAT IT READS IS OF BULK AT MOST 1048576: true; the input reads as it did. -/
def idlNumbersUptoRow : OpenClaim := { program := "ytioceechdombjaa", sum := "84132f6167c8abf8076bb13c114823f224f7701c2569be41e63ea39027f156e4", func := "gantry/gantrylaw25.IdlNumbers", spec := "idlNumbers", unfollowed := true, recurses := true, plainKeys := false, apart := false, narrowed := true }
def IdlNumbersUptoSaid : Prop := idlNumbersUptoRow.holds Try.pinned (OpenSpec.upto idlNumbersSpec)

/-- 'gantrylaw25.IdlConflict', WHERE WHAT IT READS IS OF BULK AT MOST 1048576: true; the input reads as it did. -/
def idlConflictUptoRow : OpenClaim := { program := "ytioceechdombjaa", sum := "84132f6167c8abf8076bb13c114823f224f7701c2569be41e63ea39027f156e4", func := "gantry/gantrylaw25.IdlConflict", spec := "idlConflict", unfollowed := true, recurses := true, plainKeys := false, apart := false, narrowed := true }
def IdlConflictUptoSaid : Prop := idlConflictUptoRow.holds Try.pinned (OpenSpec.upto idlConflictSpec)

/-- 'gantrylaw25.IdlMore', WHERE WHAT IT READS IS OF BULK AT MOST 1048576: true; the input reads as it did. -/
def idlMoreUptoRow : OpenClaim := { program := "ytioceechdombjaa", sum := "84132f6167c8abf8076bb13c114823f224f7701c2569be41e63ea39027f156e4", func := "gantry/gantrylaw25.IdlMore", spec := "idlMore", unfollowed := true, recurses := true, plainKeys := false, apart := false, narrowed := true }
def IdlMoreUptoSaid : Prop := idlMoreUptoRow.holds Try.pinned (OpenSpec.upto idlMoreSpec)

end Rows
end Go.Proofs.Ytioceechdombjaa
