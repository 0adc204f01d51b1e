/-
  DERIVED. GIVEN WITH THE SEED: THE CARDS: each row of YtoafghnieebimaaDoorRows.lean that lists a variable, with what it lists TIED to the program's text (the seventh form; the later family's looks); each row that meets fmt, with fmt's text TOLD by the authors' own Lean function (tested against real Go, not proved from fmt's source: count such statements apart). THE CARD IS WHAT COUNTS. Prove the row's statement (the work); the ties are given (YtoafghnieebimaaDoorTie.lean); close each card by the builder's one call (the guide's Derived/Test/ToyasCard.lean, 'card_holds'). Laid BY PROGRAM, IN A SANDBOX (cutbox-door.mjs). By AI agents, Wed Nov 11 2026. No macro, syntax, notation, axiom, sorry.
-/
import Derived.Test.YtoafghnieebimaaDoorRows
import GoSem.ClaimSeven
namespace Go.Proofs.YtoafghnieebimaaDoor
namespace Rows

/-- THE TIED CARD OF 'provenancelaw1.SubstChecks'. -/
def substChecksCard : Claim7 := { stood := { row := substChecksRow, standIns := [], harness := (true, "08825e2e0f78e74962f62640986e1a962c40213477fb1f58bb50939de4628b1d"), looks := false }, kinds := [], alts := [], laidByText := true, laidKinds := [.data], laidTests := true, laidLooks := .later }
def SubstChecksCardSaid : Prop := Claim7.holds Tryd.pinned (.plain (OpenSpec.ofChange substChecksSpec)) substChecksCard

/-- THE TIED CARD OF 'provenancelaw1.IfaceChecks'. -/
def ifaceChecksCard : Claim7 := { stood := { row := ifaceChecksRow, standIns := [], harness := (true, "08825e2e0f78e74962f62640986e1a962c40213477fb1f58bb50939de4628b1d"), looks := false }, kinds := [], alts := [], laidByText := true, laidKinds := [.data], laidTests := true, laidLooks := .later }
def IfaceChecksCardSaid : Prop := Claim7.holds Tryd.pinned (.plain (OpenSpec.ofChange ifaceChecksSpec)) ifaceChecksCard

/-- THE TIED CARD OF 'provenancelaw1.UnifySolved'. -/
def unifySolvedCard : Claim7 := { stood := { row := unifySolvedRow, standIns := [], harness := (true, "08825e2e0f78e74962f62640986e1a962c40213477fb1f58bb50939de4628b1d"), looks := false }, kinds := [], alts := [], laidByText := true, laidKinds := [.data], laidTests := true, laidLooks := .later }
def UnifySolvedCardSaid : Prop := Claim7.holds Tryd.pinned (.plain (OpenSpec.ofChange unifySolvedSpec)) unifySolvedCard

/-- THE SECOND FORM's CARD OF 'provenancelaw1.SubstChecks'. -/
def substChecksUptoCard : Claim7 := { stood := { row := substChecksUptoRow, standIns := [], harness := (true, "08825e2e0f78e74962f62640986e1a962c40213477fb1f58bb50939de4628b1d"), looks := false }, kinds := [], alts := [], laidByText := true, laidKinds := [.data], laidTests := true, laidLooks := .later }
def SubstChecksUptoCardSaid : Prop := Claim7.holds Tryd.pinned (.plain (OpenSpec.upto substChecksSpec)) substChecksUptoCard

/-- THE SECOND FORM's CARD OF 'provenancelaw1.IfaceChecks'. -/
def ifaceChecksUptoCard : Claim7 := { stood := { row := ifaceChecksUptoRow, standIns := [], harness := (true, "08825e2e0f78e74962f62640986e1a962c40213477fb1f58bb50939de4628b1d"), looks := false }, kinds := [], alts := [], laidByText := true, laidKinds := [.data], laidTests := true, laidLooks := .later }
def IfaceChecksUptoCardSaid : Prop := Claim7.holds Tryd.pinned (.plain (OpenSpec.upto ifaceChecksSpec)) ifaceChecksUptoCard

/-- THE SECOND FORM's CARD OF 'provenancelaw1.UnifySolved'. -/
def unifySolvedUptoCard : Claim7 := { stood := { row := unifySolvedUptoRow, standIns := [], harness := (true, "08825e2e0f78e74962f62640986e1a962c40213477fb1f58bb50939de4628b1d"), looks := false }, kinds := [], alts := [], laidByText := true, laidKinds := [.data], laidTests := true, laidLooks := .later }
def UnifySolvedUptoCardSaid : Prop := Claim7.holds Tryd.pinned (.plain (OpenSpec.upto unifySolvedSpec)) unifySolvedUptoCard
end Rows
end Go.Proofs.YtoafghnieebimaaDoor
