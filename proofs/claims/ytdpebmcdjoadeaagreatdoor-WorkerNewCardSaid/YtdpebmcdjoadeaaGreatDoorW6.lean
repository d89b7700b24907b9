/- The law WorkerNew returns true for every name and every size: the card, its listed variables tied to the program's text. -/
import Derived.Test.YtdpebmcdjoadeaaGreatDoorW5
import Derived.Test.YtdpebmcdjoadeaaGreatDoorCards
namespace Go.Proofs.YtdpebmcdjoadeaaGreatDoor
open Go
theorem looksYes : Tryz.prog.looks [] = true := looks_of Tryz.func571 rfl (by kernel_rfl)
theorem new_plain (f : FuncId) (fn : Func) (hf : Tryz.pinned.checked.prog.funcNamed "workflow/workflowlaw56.WorkerNew" = some f) (hfn : Tryz.pinned.checked.prog.funcs[f]? = some fn) :
    true = Tryz.pinned.checked.prog.looks [] ∧ ∀ (j : Nat) t, fn.params[j]? = some t → Tryz.pinned.checked.prog.wantsStandIn t = false := by
  obtain rfl : f = 3 := Option.some.inj (newNumber.symm.trans hf) |>.symm
  obtain rfl : fn = Tryz.f3 := (Option.some.inj (Tryz.func3.symm.trans hfn)).symm
  refine ⟨looksYes.symm, fun j t ht => ?_⟩
  rw [Tryz.params3] at ht
  have hm : t ∈ [9, 3] := by simpa using Array.mem_of_getElem? ht
  have hall : ([9, 3].all fun u => !Tryz.prog.wantsStandIn u) = true := by kernel_rfl
  exact (show Tryz.prog.wantsStandIn t = false by simpa using List.all_eq_true.1 hall t hm)
theorem workerNew_card : Rows.WorkerNewCardSaid :=
  Claim7.holds_tied_plain_at .later [] _ _ _ _ new_said (fun _ h => by cases h) (by kernel_rfl) (fun _ h => by cases h) tieNew rfl ⟨rfl, rfl⟩ mainIsSo rfl new_plain (goesBy_no goesNot rfl).symm
end Go.Proofs.YtdpebmcdjoadeaaGreatDoor
#print axioms Go.Proofs.YtdpebmcdjoadeaaGreatDoor.workerNew_card
