/-
  DERIVED. GIVEN WITH THE SEED: THE CARDS: each row of YtdpebmcdjoadeaaGreatDoorRows.lean that lists a variable, with what it lists TIED to the program's text (the seventh form; the later family's looks); each row that meets fmt, with fmt's text TOLD by the authors' own Lean function (tested against real Go, not proved from fmt's source: count such statements apart). THE CARD IS WHAT COUNTS. Prove the row's statement (the work); the ties are given (YtdpebmcdjoadeaaGreatDoorTie.lean); close each card by the builder's one call (the guide's Derived/Test/ToyasCard.lean, 'card_holds'). Laid BY PROGRAM, IN A SANDBOX (cutbox-door.mjs). By AI agents, Wed Nov 11 2026. No macro, syntax, notation, axiom, sorry.
-/
import Derived.Test.YtdpebmcdjoadeaaGreatDoorRows
import GoSem.ClaimSeven
namespace Go.Proofs.YtdpebmcdjoadeaaGreatDoor
namespace Rows

/-- THE TIED CARD OF 'workflowlaw56.WorkerNew'. -/
def workerNewCard : Claim7 := { stood := { row := workerNewRow, standIns := [], harness := (true, "0e844e4a4fd6f4aca0aad839de5f0a36fce7b78cc852cd39a484732f0f4f1abd"), looks := true }, kinds := [], alts := [], laidByText := true, laidKinds := [.data, .data, .data, .sentinel, .sentinel], laidTests := true, laidLooks := .later }
def WorkerNewCardSaid : Prop := Claim7.holds Tryz.pinned (.plain (OpenSpec.ofChange workerNewSpec)) workerNewCard

/-- THE TIED CARD OF 'workflowlaw56.WorkerNobody'. -/
def workerNobodyCard : Claim7 := { stood := { row := workerNobodyRow, standIns := [], harness := (true, "0e844e4a4fd6f4aca0aad839de5f0a36fce7b78cc852cd39a484732f0f4f1abd"), looks := true }, kinds := [], alts := [], laidByText := true, laidKinds := [.data, .data, .data, .sentinel, .sentinel], laidTests := true, laidLooks := .later }
def WorkerNobodyCardSaid : Prop := Claim7.holds Tryz.pinned (.plain (OpenSpec.ofChange workerNobodySpec)) workerNobodyCard

/-- THE SECOND FORM's CARD OF 'workflowlaw56.WorkerNew'. -/
def workerNewUptoCard : Claim7 := { stood := { row := workerNewUptoRow, standIns := [], harness := (true, "0e844e4a4fd6f4aca0aad839de5f0a36fce7b78cc852cd39a484732f0f4f1abd"), looks := true }, kinds := [], alts := [], laidByText := true, laidKinds := [.data, .data, .data, .sentinel, .sentinel], laidTests := true, laidLooks := .later }
def WorkerNewUptoCardSaid : Prop := Claim7.holds Tryz.pinned (.plain (OpenSpec.upto workerNewSpec)) workerNewUptoCard

/-- THE SECOND FORM's CARD OF 'workflowlaw56.WorkerNobody'. -/
def workerNobodyUptoCard : Claim7 := { stood := { row := workerNobodyUptoRow, standIns := [], harness := (true, "0e844e4a4fd6f4aca0aad839de5f0a36fce7b78cc852cd39a484732f0f4f1abd"), looks := true }, kinds := [], alts := [], laidByText := true, laidKinds := [.data, .data, .data, .sentinel, .sentinel], laidTests := true, laidLooks := .later }
def WorkerNobodyUptoCardSaid : Prop := Claim7.holds Tryz.pinned (.plain (OpenSpec.upto workerNobodySpec)) workerNobodyUptoCard
end Rows
end Go.Proofs.YtdpebmcdjoadeaaGreatDoor
