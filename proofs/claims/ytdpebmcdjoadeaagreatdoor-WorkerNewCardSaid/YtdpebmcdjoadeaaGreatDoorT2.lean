/- Helper text: the package variables that the rows list are laid so by the program's own text (the tie, with the door's number laid first). -/
import Derived.Test.YtdpebmcdjoadeaaGreatDoorT1
namespace Go.Proofs.YtdpebmcdjoadeaaGreatDoor
open Go
set_option maxRecDepth 100000

noncomputable def doorAt (P : Program) (g : FuncId) (n fuel M : Nat) (laid : List (String × DataW Unit)) (os : Os) (tape : Tape) : Option (List (String × DataW Unit) × List (DataW (List UInt8))) :=
  match runN P n (Machine.entering P (World.unlaid P os) tape g ⟨#[], #[], []⟩) with
  | .ended (.done _) w =>
    (DataW.laidRun P w.memory fuel ((laid.filter fun x => x.2.handleName?.isNone).map (·.1))).bind fun x =>
      if nodupBits M x.2 0 && laidRowsB P w.memory x.2 && (laid.filter fun x => x.2.handleName?.isSome && x.2.funcsIn?.isNone).all (handleAtB P w.memory)
      then (funcsRun P w.memory fuel ((funcsListed laid).map (·.1))).map fun y => (x.1, y) else none
  | _ => none
theorem door_at {P : Program} {g : FuncId} (h : varsId P = g) (n fuel M : Nat) (laid : List (String × DataW Unit)) (os : Os) (tape : Tape) : doorLeaves P n fuel M laid os tape = doorAt P g n fuel M laid os tape := by
  subst h; rfl
theorem varsNamed_at {P : Program} {g : FuncId} (h : varsId P = g) {laid : List (String × DataW Unit)} (k : varsNamedLaterB P g laid = true) : varsNamedLaterB P (varsId P) laid = true := by
  rw [h]; exact k

def laid5 : List (String × DataW Unit) := [("math/bits.deBruijn32tab", Rows.laid_math_bits_deBruijn32tab), ("math/bits.deBruijn64tab", Rows.laid_math_bits_deBruijn64tab), ("internal/strconv.uint64pow10", Rows.laid_internal_strconv_uint64pow10), ("strconv.ErrRange", Rows.laid_strconv_ErrRange), ("strconv.ErrSyntax", Rows.laid_strconv_ErrSyntax)]
def kinds5 : List LaidKind := [.data, .data, .data, .sentinel, .sentinel]
theorem wordA : Tryz.prog.worded (varsWordLater true) = true := worded_list (by kernel_rfl)
theorem wordB : Tryz.prog.worded (varsWordLater !true) = false := worded_list (by kernel_rfl)
theorem wordC : Tryz.prog.worded rootWordLater = true := worded_list (by kernel_rfl)
theorem kindsAre : laid5.map (fun x => Tryz.prog.kindOfLater x.1) = kinds5.map some := by kernel_rfl
theorem varsFit : varsNamedLaterB Tryz.prog 870 laid5 = true := by kernel_rfl
theorem doorRuns (os : Os) (tape : Tape) : doorAt Tryz.prog 870 62 8 65 laid5 os tape = some (laid5.filter fun x => x.2.handleName?.isNone, (funcsListed laid5).map (·.2.funcsOut)) := by kernel_rfl
theorem tie5 : Tryz.prog.laidByTextLater laid5 kinds5 true :=
  Program.laidByTextLater_by_one 62 8 65 wordA wordB wordC kindsAre (by rw [varsNumber]; rfl) (varsNamed_at varsIs varsFit) (fun os tape => (door_at varsIs 62 8 65 laid5 os tape).trans (doorRuns os tape))
theorem tieNew : Rows.workerNewRow.laidByTextAt .later Tryz.pinned [.data, .data, .data, .sentinel, .sentinel] true := OpenClaim.laidByTextAt_later rfl rfl tie5 noOwnUnsafe'
theorem tieNobody : Rows.workerNobodyRow.laidByTextAt .later Tryz.pinned [.data, .data, .data, .sentinel, .sentinel] true := OpenClaim.laidByTextAt_later rfl rfl tie5 noOwnUnsafe'
end Go.Proofs.YtdpebmcdjoadeaaGreatDoor
