/-
  NARROWER THAN 'FOR EVERY INPUT', by the rows' own cells (each row's printed sentence says how): SubstChecks: loops, laid · IfaceChecks: loops, laid · UnifySolved: loops, laid.
  DERIVED. THE GIVEN ROWS OF THIS SEAT. 3 by the template 'for every input the law returns true; each argument reads behind the call as it read before'; 0 by the template 'total and deterministic' (their statements: YtoafghnieebimaaDoorTotals.lean).
  GIVEN WITH THE SEED: the statements are not yours to turn. If you find one false, say at which input.
  Laid BY PROGRAM, IN A SANDBOX (cutbox-rows.mjs): the forced cells as the released guide's own fill.sh prints them over the translation 4ee6ef92e9c851d6… (all of the seat's roots in one cut). By AI agents, Wed Nov 11 2026. No macro, syntax, notation, axiom, sorry.
-/
import Derived.Test.YtoafghnieebimaaDoorChecked
import GoSem.Claim
import GoSem.ClaimJoined
import GoSem.ClaimMapViews
import Derived.JoinedTies
import Derived.KernelRfl
namespace Go.Proofs.YtoafghnieebimaaDoor
/- THE CELL 'sum', in the pinned program and in every row, IS THE sha256 OF THE DUMP (.gsa) THAT YtoafghnieebimaaDoorProg.lean LOADS. Nothing in Lean hashes anything: it is a label: what it is worth is what the hold of that sum in a sandbox is worth. -/
noncomputable def Tryd.pinned : Pinned := { name := "ytoafghnieebimaadoor", sum := "4ee6ef92e9c851d6d535decd6ee865361b7412c537d574afca072ac418dbb244", checked := Tryd.checked }
namespace Rows
def none {H : Type} : Left H := { results := [], args := [] }

/- WHAT THE LISTED PACKAGE-LEVEL VARIABLES READ AS WHEN THE CALL BEGINS. Each datum BY PROGRAM (the guide's laid-datum.mjs) off the statement by which the dump's own 'gosem.cut.vars' lays the variable. In a bare row this is a premise. The card (YtoafghnieebimaaDoorCards.lean) ties it to the program's text. -/
def laid_provenance_unify_sizes {H : Type} : DataW H := .agg [.lit (.int .i64 0), .lit (.int .i64 (-1)), .lit (.int .i64 3), .lit (.int .i64 1), .lit (.int .i64 0), .lit (.int .i64 2)]

/-- 'provenancelaw1.SubstChecks': WHATEVER THE INPUT: true; the input reads as it did. -/
def substChecksSpec : ChangeSpec := { name := "substChecks", fn := fun _ => fun
  | [d] => { results := [.lit (.bool true)], args := [d] }
  | _ => none }
def substChecksRow : OpenClaim := { program := "ytoafghnieebimaadoor", sum := "4ee6ef92e9c851d6d535decd6ee865361b7412c537d574afca072ac418dbb244", func := "provenance/provenancelaw1.SubstChecks", spec := "substChecks", unfollowed := true, recurses := true, named := ["provenance/unify.sizes"], loops := true, apart := false, laid := [("provenance/unify.sizes", laid_provenance_unify_sizes)] }
def SubstChecksSaid : Prop := substChecksRow.holds Tryd.pinned (OpenSpec.ofChange substChecksSpec)

/-- ITS FALSE NEIGHBOUR: 'it returns false'. Refute it at one input. -/
def substChecksWrong : ChangeSpec := { name := "substChecks", fn := fun _ => fun
  | [d] => { results := [.lit (.bool false)], args := [d] }
  | _ => none }
def SubstChecksWrongFalsely : Prop := substChecksRow.holds Tryd.pinned (OpenSpec.ofChange substChecksWrong)

/-- 'provenancelaw1.IfaceChecks': WHATEVER THE INPUT: true; the input reads as it did. -/
def ifaceChecksSpec : ChangeSpec := { name := "ifaceChecks", fn := fun _ => fun
  | [d] => { results := [.lit (.bool true)], args := [d] }
  | _ => none }
def ifaceChecksRow : OpenClaim := { program := "ytoafghnieebimaadoor", sum := "4ee6ef92e9c851d6d535decd6ee865361b7412c537d574afca072ac418dbb244", func := "provenance/provenancelaw1.IfaceChecks", spec := "ifaceChecks", inPlace := ["internal/bytealg.abigen_runtime_cmpstring"], unfollowed := true, recurses := true, named := ["provenance/unify.sizes"], loops := true, apart := false, laid := [("provenance/unify.sizes", laid_provenance_unify_sizes)] }
def IfaceChecksSaid : Prop := ifaceChecksRow.holds Tryd.pinned (OpenSpec.ofChange ifaceChecksSpec)

/-- ITS FALSE NEIGHBOUR: 'it returns false'. Refute it at one input. -/
def ifaceChecksWrong : ChangeSpec := { name := "ifaceChecks", fn := fun _ => fun
  | [d] => { results := [.lit (.bool false)], args := [d] }
  | _ => none }
def IfaceChecksWrongFalsely : Prop := ifaceChecksRow.holds Tryd.pinned (OpenSpec.ofChange ifaceChecksWrong)

/-- 'provenancelaw1.UnifySolved': WHATEVER THE INPUT: true; the input reads as it did. -/
def unifySolvedSpec : ChangeSpec := { name := "unifySolved", fn := fun _ => fun
  | [d1, d2, d3] => { results := [.lit (.bool true)], args := [d1, d2, d3] }
  | _ => none }
def unifySolvedRow : OpenClaim := { program := "ytoafghnieebimaadoor", sum := "4ee6ef92e9c851d6d535decd6ee865361b7412c537d574afca072ac418dbb244", func := "provenance/provenancelaw1.UnifySolved", spec := "unifySolved", unfollowed := true, recurses := true, named := ["provenance/unify.sizes"], loops := true, apart := false, laid := [("provenance/unify.sizes", laid_provenance_unify_sizes)] }
def UnifySolvedSaid : Prop := unifySolvedRow.holds Tryd.pinned (OpenSpec.ofChange unifySolvedSpec)

/-- ITS FALSE NEIGHBOUR: 'it returns false'. Refute it at one input. -/
def unifySolvedWrong : ChangeSpec := { name := "unifySolved", fn := fun _ => fun
  | [d1, d2, d3] => { results := [.lit (.bool false)], args := [d1, d2, d3] }
  | _ => none }
def UnifySolvedWrongFalsely : Prop := unifySolvedRow.holds Tryd.pinned (OpenSpec.ofChange unifySolvedWrong)

/- THE SECOND FORM. 'bulk': how many values and letters a reading holds, each counted each time it is reached (what is shared counts as often as it is met; a slice's spare places count too). A statement '..UptoSaid' is the law's where the arguments, and the package variables that the reading takes, are together of bulk at most 1048576: NARROWER than '..Said'. Prove '..Said' where nothing that the law and all that it calls make is longer than what came in: it says more and counts as full. Else prove '..UptoSaid'. A law counts once. -/
mutual
def uptoBulk {H : Type} : DataW H → Nat
  | .lit (.string bytes) => bytes.length + 1
  | .lit _ => 1
  | .nil => 1
  | .ptr d => uptoBulk d + 1
  | .slice elems spare => uptoBulkAll elems + uptoBulkAll spare + 1
  | .agg parts => uptoBulkAll parts + 1
  | .iface _ d => uptoBulk d + 1
  | .map entries => uptoBulkEntries entries + 1
  | .held _ => 1
def uptoBulkAll {H : Type} : List (DataW H) → Nat
  | [] => 0
  | d :: r => uptoBulk d + uptoBulkAll r
def uptoBulkEntries {H : Type} : List (Lit × DataW H) → Nat
  | [] => 0
  | x :: r => uptoBulkEntry x + uptoBulkEntries r
def uptoBulkEntry {H : Type} : Lit × DataW H → Nat
  | (.string bytes, d) => bytes.length + uptoBulk d + 1
  | (_, d) => uptoBulk d + 1
 end
def uptoSmall : (H : Type) → List (DataW H) → Bool := fun _ ds => decide (uptoBulkAll ds ≤ 1048576)
def OpenSpec.upto (s : _root_.Go.ChangeSpec) : _root_.Go.OpenSpec := { _root_.Go.OpenSpec.ofChange s with cond := some uptoSmall }

/-- 'provenancelaw1.SubstChecks', WHERE WHAT IT READS IS OF BULK AT MOST 1048576: true; the input reads as it did. -/
def substChecksUptoRow : OpenClaim := { program := "ytoafghnieebimaadoor", sum := "4ee6ef92e9c851d6d535decd6ee865361b7412c537d574afca072ac418dbb244", func := "provenance/provenancelaw1.SubstChecks", spec := "substChecks", unfollowed := true, recurses := true, named := ["provenance/unify.sizes"], loops := true, apart := false, laid := [("provenance/unify.sizes", laid_provenance_unify_sizes)], narrowed := true }
def SubstChecksUptoSaid : Prop := substChecksUptoRow.holds Tryd.pinned (OpenSpec.upto substChecksSpec)

/-- 'provenancelaw1.IfaceChecks', WHERE WHAT IT READS IS OF BULK AT MOST 1048576: true; the input reads as it did. -/
def ifaceChecksUptoRow : OpenClaim := { program := "ytoafghnieebimaadoor", sum := "4ee6ef92e9c851d6d535decd6ee865361b7412c537d574afca072ac418dbb244", func := "provenance/provenancelaw1.IfaceChecks", spec := "ifaceChecks", inPlace := ["internal/bytealg.abigen_runtime_cmpstring"], unfollowed := true, recurses := true, named := ["provenance/unify.sizes"], loops := true, apart := false, laid := [("provenance/unify.sizes", laid_provenance_unify_sizes)], narrowed := true }
def IfaceChecksUptoSaid : Prop := ifaceChecksUptoRow.holds Tryd.pinned (OpenSpec.upto ifaceChecksSpec)

/-- 'provenancelaw1.UnifySolved', WHERE WHAT IT READS IS OF BULK AT MOST 1048576: true; the input reads as it did. -/
def unifySolvedUptoRow : OpenClaim := { program := "ytoafghnieebimaadoor", sum := "4ee6ef92e9c851d6d535decd6ee865361b7412c537d574afca072ac418dbb244", func := "provenance/provenancelaw1.UnifySolved", spec := "unifySolved", unfollowed := true, recurses := true, named := ["provenance/unify.sizes"], loops := true, apart := false, laid := [("provenance/unify.sizes", laid_provenance_unify_sizes)], narrowed := true }
def UnifySolvedUptoSaid : Prop := unifySolvedUptoRow.holds Tryd.pinned (OpenSpec.upto unifySolvedSpec)

end Rows
end Go.Proofs.YtoafghnieebimaaDoor
