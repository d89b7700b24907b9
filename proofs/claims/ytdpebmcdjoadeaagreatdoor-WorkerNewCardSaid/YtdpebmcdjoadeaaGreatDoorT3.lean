/- Helper text: a start that meets the rows' conditions: the heap that the door's own run leaves. -/
import Derived.Test.YtdpebmcdjoadeaaGreatDoorT2
import Derived.ProofKit
import Derived.OpenShut
import Derived.Stop.Joined
namespace Go.Proofs.YtdpebmcdjoadeaaGreatDoor
open Go
open Go.ChangeShapes Go.WideShapes Go.ChangeAt Go.RowKit
set_option maxRecDepth 100000

noncomputable def startWorld (os : Os) : World := { World.holding Tryz.prog os ⟨#[], #[], []⟩ with heap := (varsWorld Tryz.prog 62 870 os (fun _ _ => 0)).heap }
theorem start_run (os : Os) (args : Array Value) : (DataW.laidRun Tryz.prog ((startWorld os).forCall (fun _ _ => 0) ⟨#[], args, []⟩).memory 8 (laid5.map (·.1))).map (·.1) = some laid5 := by kernel_rfl
theorem start_rows (os : Os) (args : Array Value) : (DataW.laidRun Tryz.prog ((startWorld os).forCall (fun _ _ => 0) ⟨#[], args, []⟩).memory 8 (laid5.map (·.1))).map (fun x => decide x.2.Nodup && laidRowsB Tryz.prog ((startWorld os).forCall (fun _ _ => 0) ⟨#[], args, []⟩).memory x.2) = some true := by kernel_rfl
theorem start_met (os : Os) (args : Array Value) : laidMetH Tryz.prog laid5 ((startWorld os).forCall (fun _ _ => 0) ⟨#[], args, []⟩).memory :=
  laidMetH_of_parts3 (fuel := 8) (laidMet_of_run' 8 (start_run os args) (start_rows os args)) (by kernel_rfl) (by kernel_rfl)
theorem own : ownKnob Tryz.prog.godebug = none := by kernel_rfl
end Go.Proofs.YtdpebmcdjoadeaaGreatDoor
