/- Helper text: what the two functions that look at one letter of a name answer. -/
import Derived.Test.YtdpebmcdjoadeaaGreatDoorProg
import Derived.WalkKit
import Derived.BigQuiet
import Derived.Deep.QuietTactic
namespace Go.Proofs.YtdpebmcdjoadeaaGreatDoor
open Go.RowKit

/-- a letter or an underscore -/
def letterB (c : Int) : Bool := decide (97 ≤ c ∧ c ≤ 122) || decide (65 ≤ c ∧ c ≤ 90) || decide (c = 95)
def digitB (c : Int) : Bool := decide (48 ≤ c ∧ c ≤ 57)

set_option maxHeartbeats 400000 in
theorem letter35 (c : Int) (w : World) : Calls Tryz.prog 35 #[.int .u8 c] w fun e w' => e = .returned (.bool (letterB c)) ∧ w' = w := by
  by_cases h1 : 97 ≤ c <;> by_cases h2 : c ≤ 122 <;> by_cases h3 : 65 ≤ c <;> by_cases h4 : c ≤ 90 <;> by_cases h5 : c = 95 <;> try omega
  all_goals
    go_enter Tryz.func35, Tryz.ntmps35
    go_wp2
    go_ret
    refine ⟨?_, rfl⟩
    simp [letterB, h1, h2, h3, h4, h5]
    try (have e5 : (c == 95) = false := by simpa using h5
         simp [e5]; try omega)

set_option maxHeartbeats 400000 in
theorem letter36 (c : Int) (w : World) : Calls Tryz.prog 36 #[.int .u8 c] w fun e w' => e = .returned (.bool (letterB c || digitB c)) ∧ w' = w := by
  by_cases h1 : 97 ≤ c <;> by_cases h2 : c ≤ 122 <;> by_cases h3 : 65 ≤ c <;> by_cases h4 : c ≤ 90 <;> by_cases h5 : c = 95 <;> by_cases h6 : 48 ≤ c <;> by_cases h7 : c ≤ 57 <;> try omega
  all_goals
    go_enter Tryz.func36, Tryz.ntmps36
    go_wp2
    go_ret
    refine ⟨?_, rfl⟩
    simp [letterB, digitB, h1, h2, h3, h4, h5, h6, h7]
    try (have e5 : (c == 95) = false := by simpa using h5
         simp [e5]; try omega)
end Go.Proofs.YtdpebmcdjoadeaaGreatDoor
