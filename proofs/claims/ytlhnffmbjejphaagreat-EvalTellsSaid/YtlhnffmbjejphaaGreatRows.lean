/-
  NARROWER THAN 'FOR EVERY INPUT', by the rows' own cells (each row's printed sentence says how): EvalTells: loops · CoreMeans: loops.
  DERIVED. THE GIVEN ROWS OF THIS SEAT. 2 by the template 'for every input the law returns true; each argument reads behind the call as it read before'; 0 by the template 'total and deterministic' (their statements: YtlhnffmbjejphaaGreatTotals.lean).
  GIVEN WITH THE SEED: the statements are not yours to turn. If you find one false, say at which input.
  Laid BY PROGRAM, IN A SANDBOX (cutbox-rows.mjs): the forced cells as the released guide's own fill.sh prints them over the translation cdff0751b21f26fb… (all of the seat's roots in one cut). By AI agents, Wed Nov 11 2026. No macro, syntax, notation, axiom, sorry.
-/
import Derived.Test.YtlhnffmbjejphaaGreatChecked
import GoSem.Claim
import GoSem.ClaimJoined
import GoSem.ClaimMapViews
import Derived.JoinedTies
import Derived.KernelRfl
namespace Go.Proofs.YtlhnffmbjejphaaGreat
/- THE CELL 'sum', in the pinned program and in every row, IS THE sha256 OF THE DUMP (.gsa) THAT YtlhnffmbjejphaaGreatProg.lean LOADS. Nothing in Lean hashes anything: it is a label: what it is worth is what the hold of that sum in a sandbox is worth. -/
noncomputable def Tryz.pinned : Pinned := { name := "ytlhnffmbjejphaagreat", sum := "cdff0751b21f26fb18c074897e9be6d38bb6cd2d33f0ecda07fb3388cdf92f4a", checked := Tryz.checked }
namespace Rows
def none {H : Type} : Left H := { results := [], args := [] }

/-- 'gantrylaw10.EvalTells': WHATEVER THE INPUT: true; the input reads as it did. -/
def evalTellsSpec : ChangeSpec := { name := "evalTells", fn := fun _ => fun
  | [d1, d2, d3, d4, d5] => { results := [.lit (.bool true)], args := [d1, d2, d3, d4, d5] }
  | _ => none }
def evalTellsRow : OpenClaim := { program := "ytlhnffmbjejphaagreat", sum := "cdff0751b21f26fb18c074897e9be6d38bb6cd2d33f0ecda07fb3388cdf92f4a", func := "gantry/gantrylaw10.EvalTells", spec := "evalTells", unfollowed := true, recurses := true, loops := true, plainKeys := false, apart := false }
def EvalTellsSaid : Prop := evalTellsRow.holds Tryz.pinned (OpenSpec.ofChange evalTellsSpec)

/-- ITS FALSE NEIGHBOUR: 'it returns false'. Refute it at one input. -/
def evalTellsWrong : ChangeSpec := { name := "evalTells", fn := fun _ => fun
  | [d1, d2, d3, d4, d5] => { results := [.lit (.bool false)], args := [d1, d2, d3, d4, d5] }
  | _ => none }
def EvalTellsWrongFalsely : Prop := evalTellsRow.holds Tryz.pinned (OpenSpec.ofChange evalTellsWrong)

/-- 'gantrylaw12.CoreMeans': WHATEVER THE INPUT: true; the input reads as it did. -/
def coreMeansSpec : ChangeSpec := { name := "coreMeans", fn := fun _ => fun
  | [d1, d2, d3, d4] => { results := [.lit (.bool true)], args := [d1, d2, d3, d4] }
  | _ => none }
def coreMeansRow : OpenClaim := { program := "ytlhnffmbjejphaagreat", sum := "cdff0751b21f26fb18c074897e9be6d38bb6cd2d33f0ecda07fb3388cdf92f4a", func := "gantry/gantrylaw12.CoreMeans", spec := "coreMeans", unfollowed := true, recurses := true, loops := true, plainKeys := false, apart := false }
def CoreMeansSaid : Prop := coreMeansRow.holds Tryz.pinned (OpenSpec.ofChange coreMeansSpec)

/-- ITS FALSE NEIGHBOUR: 'it returns false'. Refute it at one input. -/
def coreMeansWrong : ChangeSpec := { name := "coreMeans", fn := fun _ => fun
  | [d1, d2, d3, d4] => { results := [.lit (.bool false)], args := [d1, d2, d3, d4] }
  | _ => none }
def CoreMeansWrongFalsely : Prop := coreMeansRow.holds Tryz.pinned (OpenSpec.ofChange coreMeansWrong)

/- THE SECOND FORM. 'bulk': how many values and letters a reading holds, each counted each time it is reached (what is shared counts as often as it is met; a slice's spare places count too). A statement '..UptoSaid' is the law's where the arguments, and the package variables that the reading takes, are together of bulk at most 1048576: NARROWER than '..Said'. Prove '..Said' where nothing that the law and all that it calls make is longer than what came in: it says more and counts as full. Else prove '..UptoSaid'. A law counts once. -/
mutual
def uptoBulk {H : Type} : DataW H → Nat
  | .lit (.string bytes) => bytes.length + 1
  | .lit _ => 1
  | .nil => 1
  | .ptr d => uptoBulk d + 1
  | .slice elems spare => uptoBulkAll elems + uptoBulkAll spare + 1
  | .agg parts => uptoBulkAll parts + 1
  | .iface _ d => uptoBulk d + 1
  | .map entries => uptoBulkEntries entries + 1
  | .held _ => 1
def uptoBulkAll {H : Type} : List (DataW H) → Nat
  | [] => 0
  | d :: r => uptoBulk d + uptoBulkAll r
def uptoBulkEntries {H : Type} : List (Lit × DataW H) → Nat
  | [] => 0
  | x :: r => uptoBulkEntry x + uptoBulkEntries r
def uptoBulkEntry {H : Type} : Lit × DataW H → Nat
  | (.string bytes, d) => bytes.length + uptoBulk d + 1
  | (_, d) => uptoBulk d + 1
 end
def uptoSmall : (H : Type) → List (DataW H) → Bool := fun _ ds => decide (uptoBulkAll ds ≤ 1048576)
def OpenSpec.upto (s : _root_.Go.ChangeSpec) : _root_.Go.OpenSpec := { _root_.Go.OpenSpec.ofChange s with cond := some uptoSmall }

/-- 'gantrylaw10.EvalTells', WHERE WHAT IT READS IS OF BULK AT MOST 1048576: true; the input reads as it did. -/
def evalTellsUptoRow : OpenClaim := { program := "ytlhnffmbjejphaagreat", sum := "cdff0751b21f26fb18c074897e9be6d38bb6cd2d33f0ecda07fb3388cdf92f4a", func := "gantry/gantrylaw10.EvalTells", spec := "evalTells", unfollowed := true, recurses := true, loops := true, plainKeys := false, apart := false, narrowed := true }
def EvalTellsUptoSaid : Prop := evalTellsUptoRow.holds Tryz.pinned (OpenSpec.upto evalTellsSpec)

/-- 'gantrylaw12.CoreMeans', WHERE WHAT IT READS IS OF BULK AT MOST 1048576: true; the input reads as it did. -/
def coreMeansUptoRow : OpenClaim := { program := "ytlhnffmbjejphaagreat", sum := "cdff0751b21f26fb18c074897e9be6d38bb6cd2d33f0ecda07fb3388cdf92f4a", func := "gantry/gantrylaw12.CoreMeans", spec := "coreMeans", unfollowed := true, recurses := true, loops := true, plainKeys := false, apart := false, narrowed := true }
def CoreMeansUptoSaid : Prop := coreMeansUptoRow.holds Tryz.pinned (OpenSpec.upto coreMeansSpec)

end Rows
end Go.Proofs.YtlhnffmbjejphaaGreat
