/- Helper text: the chapter's example returns true. -/
import Derived.Test.YtdpebmcdjoadeaaGreatDoorS1
import Derived.Test.YtdpebmcdjoadeaaGreatDoorS2
import Derived.Test.YtdpebmcdjoadeaaGreatDoorAxTrue
namespace Go.Proofs.YtdpebmcdjoadeaaGreatDoor
open Go.Ax
noncomputable def recorded : List (Nat × List Snap) := [(22, [snap0]), (23, [snap1, snap3]), (12, [snap2, snap4])]
set_option maxHeartbeats 0 in
theorem knows_run : isTrue (call (cfgOf Tryz.prog recorded) 1000 10 [] ⟨.nil, 0, .nil⟩) = true := by kernel_rfl
theorem recorded_ok : SnapsOk Tryz.prog recorded := by
  intro g l h s hs
  simp only [recorded, List.mem_cons, List.not_mem_nil, or_false, Prod.mk.injEq] at h
  rcases h with ⟨rfl, rfl⟩ | ⟨rfl, rfl⟩ | ⟨rfl, rfl⟩
  · simp only [List.mem_cons, List.not_mem_nil, or_false] at hs
    rcases hs with rfl
    exact ⟨rfl, snap0_ok⟩
  · simp only [List.mem_cons, List.not_mem_nil, or_false] at hs
    rcases hs with rfl | rfl
    · exact ⟨rfl, snap1_ok⟩
    · exact ⟨rfl, snap3_ok⟩
  · simp only [List.mem_cons, List.not_mem_nil, or_false] at hs
    rcases hs with rfl | rfl
    · exact ⟨rfl, snap2_ok⟩
    · exact ⟨rfl, snap4_ok⟩
theorem knows_true : IsTrue Tryz.prog 10 := true_calls mixed noNums recorded_ok knows_run
end Go.Proofs.YtdpebmcdjoadeaaGreatDoor
