/- Helper text: closed facts on the program's names, and that the package variables that the rows list are laid so by the program's own text. -/
import Derived.Test.YtdpebmcdjoadeaaGreatDoorRows
import Derived.Test.YtdpebmcdjoadeaaGreatDoorC1
import Derived.Test.YtdpebmcdjoadeaaGreatDoorD2
import Derived.LaidByTextLater
import Derived.SevenTiedAt
import Derived.LaidOnce
import Derived.LaidMore
namespace Go.Proofs.YtdpebmcdjoadeaaGreatDoor
open Go
set_option maxRecDepth 100000

def idxs {α : Type} (p : α → Bool) : Nat → List α → List Nat
  | _, [] => []
  | i, a :: l => if p a then i :: idxs p (i + 1) l else idxs p (i + 1) l
theorem idxs_eq {α : Type} {p : α → Bool} : ∀ (l : List α) (a : Nat), (List.range' a l.length).filter (fun i => (l[i - a]?).any p) = idxs p a l
  | [], a => rfl
  | x :: l, a => by
    have ih := idxs_eq (p := p) l (a + 1)
    have e : (List.range' (a + 1) l.length).filter (fun i => ((x :: l)[i - a]?).any p) = idxs p (a + 1) l := by
      rw [← ih]
      apply List.filter_congr
      intro i hi
      have := List.mem_range'_1.mp hi
      rw [show i - a = (i - (a + 1)) + 1 by omega, List.getElem?_cons_succ]
    rw [List.length_cons, List.range'_succ, List.filter_cons, e]
    simp only [Nat.sub_self, List.getElem?_cons_zero, Option.any_some, idxs]
theorem funcNamed_idxs {P : Program} {n : String} {k : Nat} (h : idxs (fun f => f.name == n) 0 P.funcs.toList = [k]) : P.funcNamed n = some k := by
  unfold Program.funcNamed
  have e := idxs_eq (p := fun f : Func => f.name == n) P.funcs.toList 0
  rw [h] at e
  have e2 : (List.range P.funcs.size).filter (fun i => (P.funcs[i]?).any (·.name == n)) = [k] := by
    rw [← e, List.range_eq_range', Array.length_toList]
    apply List.filter_congr
    intro i _
    simp
  rw [e2]
theorem worded_list {P : Program} {w : String} {b : Bool} (h : P.funcs.toList.any (fun fn => fn.body.isNone && fn.name == w) = b) : P.worded w = b := by
  unfold Program.worded
  rw [← h, Array.any_toList]
theorem laysLater_list {P : Program} {b : Bool} (h : P.funcs.toList.any (fun fn => fn.body.isNone && (fn.name == "runtime.SetFinalizer" || fn.name == "runtime.AddCleanup" || fn.origin == "runtime.AddCleanup")) = b) : P.laysLater = b := by
  unfold Program.laysLater
  rw [← h, Array.any_toList]
theorem goes_no {P : Program} {f : Nat} (h : P.funcs.toList.all (fun fn => !fn.goes) = true) : P.goes f = false := by
  have hall : ∀ fn ∈ P.funcs.toList, Func.goes fn = false := fun fn hm => by simpa using List.all_eq_true.mp h fn hm
  have h2 : P.funcs.any Func.goes = false := by
    rw [← Array.any_toList]
    exact List.any_eq_false.mpr fun fn hm => by simp [hall fn hm]
  unfold Program.goes
  rw [h2, Bool.and_false, Bool.or_false]
  refine List.any_eq_false.mpr fun g _ => ?_
  cases hf : P.funcs[g]? with
  | none => simp
  | some fn =>
    have hm : fn ∈ P.funcs.toList := List.mem_of_getElem? (by rw [Array.getElem?_toList]; exact hf)
    simp [hall fn hm]
theorem goesBy_no {P : Program} {c : OpenClaim} (h : P.funcs.toList.all (fun fn => !fn.goes) = true) (hs : c.start = .entering) : c.goesBy P = false := by
  unfold OpenClaim.goesBy Program.goesAt Program.goesFrom
  rw [hs]
  cases P.funcNamed c.func with
  | none => rfl
  | some f => simp [goes_no h]
theorem looks_of {P : Program} {g : Nat} {fn : Func} {c : Code} (hf : P.funcs[g]? = some fn) (hb : fn.body = some c) (hl : c.looks P = true) : P.looks [] = true := by
  unfold Program.looks
  rw [List.any_eq_true]
  refine ⟨g, ?_, ?_⟩
  · rw [List.mem_range]
    exact (Array.getElem?_eq_some_iff.mp hf).1
  · rw [hf]
    simp [hb, hl]

theorem varsNumber : Tryz.prog.funcNamed "gosem.cut.vars" = some 870 := funcNamed_idxs (by kernel_rfl)
theorem varsIs : varsId Tryz.prog = 870 := by unfold varsId; rw [varsNumber]; rfl
theorem newNumber : Tryz.prog.funcNamed "workflow/workflowlaw56.WorkerNew" = some 3 := funcNamed_idxs (by kernel_rfl)
theorem nobodyNumber : Tryz.prog.funcNamed "workflow/workflowlaw56.WorkerNobody" = some 4 := funcNamed_idxs (by kernel_rfl)
theorem laysLaterNot : Tryz.prog.laysLater = false := laysLater_list (by kernel_rfl)
theorem mayEnterYes : Tryz.prog.mayEnter = true := by
  unfold Program.mayEnter
  rw [laysLaterNot]
  kernel_rfl
theorem goesNot : Tryz.prog.funcs.toList.all (fun fn => !fn.goes) = true := by kernel_rfl
theorem mainIsSo : Tryz.prog.mainIs = some (true, "0e844e4a4fd6f4aca0aad839de5f0a36fce7b78cc852cd39a484732f0f4f1abd".toList) := by kernel_rfl
theorem noOwnUnsafe' : Tryz.pinned.checked.prog.headLifts.contains "ownunsafe" = false := by kernel_rfl
end Go.Proofs.YtdpebmcdjoadeaaGreatDoor
