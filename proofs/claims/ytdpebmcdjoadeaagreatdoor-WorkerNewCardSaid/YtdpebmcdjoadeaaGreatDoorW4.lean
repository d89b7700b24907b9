/- Helper text: the law WorkerNew returns true: the walk. -/
import Derived.Test.YtdpebmcdjoadeaaGreatDoorW3
import Derived.Test.YtdpebmcdjoadeaaGreatDoorS3
namespace Go.Proofs.YtdpebmcdjoadeaaGreatDoor
open Go.RowKit

set_option maxHeartbeats 400000 in
theorem law3_long (s : ByteArray) (n : Int) (h : 200 < s.size) (w : World) : Calls Tryz.prog 3 #[.string s, .int .i64 n] w fun e w' => e = .returned (.bool true) ∧ Below w.heap.size w w' := by
  have hi : (200 : Int) < (s.size : Int) := by omega
  go_enter Tryz.func3, Tryz.ntmps3
  go_wp2
  go_ret
  exact ⟨rfl, Below.refl _ _⟩

set_option maxHeartbeats 400000 in
theorem law3_bad (s : ByteArray) (n q : Int) (h : s.size ≤ 200) (w : World) (hq : q = 8 ∨ q = 2)
    (c5 : ∀ w, Calls Tryz.prog 5 #[.string s, .int .i64 n] w fun e w' => e = .returned (.tuple #[.pointer none, .int .i64 q]) ∧ w' = w)
    (c6 : ∀ w, Calls Tryz.prog 6 #[.string s, .int .i64 n] w fun e w' => e = .returned (.tuple #[.pointer none, .int .i64 q]) ∧ w' = w) :
    Calls Tryz.prog 3 #[.string s, .int .i64 n] w fun e w' => e = .returned (.bool true) ∧ Below w.heap.size w w' := by
  have hi : ¬ (200 : Int) < (s.size : Int) := by omega
  have cK : ∀ w, Calls Tryz.prog 10 #[] w fun e w' => e = .returned (.bool true) ∧ Below w.heap.size w w' := knows_true
  rcases hq with rfl | rfl
  all_goals
    go_enter Tryz.func3, Tryz.ntmps3
    go_wp2_with (first
      | (go_at_call 5; refine (c5 _).mono ?_; rintro e w' ⟨rfl, rfl⟩)
      | (go_at_call 6; refine (c6 _).mono ?_; rintro e w' ⟨rfl, rfl⟩)
      | (go_at_call 10; refine (cK _).mono ?_; rintro e w2 ⟨rfl, hB⟩))
    go_ret
    exact ⟨rfl, hB⟩

set_option maxHeartbeats 400000 in
theorem law3_ok (s : ByteArray) (n : Int) (h : s.size ≤ 200) (hs : Good s) (h1 : 1 ≤ n) (h64 : n ≤ 64) (w : World) :
    Calls Tryz.prog 3 #[.string s, .int .i64 n] w fun e w' => e = .returned (.bool true) ∧ Below w.heap.size w w' := by
  have hi : ¬ (200 : Int) < (s.size : Int) := by omega
  have cK : ∀ w, Calls Tryz.prog 10 #[] w fun e w' => e = .returned (.bool true) ∧ Below w.heap.size w w' := knows_true
  go_enter Tryz.func3, Tryz.ntmps3
  go_wp2_with (first
    | (go_at_call 5; refine (new5_ok s hs n h1 h64 _).mono ?_; rintro e w1 ⟨p, rfl, hW1, hB1⟩)
    | (go_at_call 6; refine (new6_ok s hs n h1 h64 _).mono ?_; rintro e w2 ⟨x, rfl, hB2⟩; have hW2 := hW1.later hB2)
    | (go_at_call 7; refine (name7 (by assumption)).mono ?_; rintro e w' ⟨rfl, rfl⟩)
    | (go_at_call 8; refine (hits8 h1 (by assumption)).mono ?_; rintro e w' ⟨rfl, rfl⟩)
    | (go_at_call 9; refine (misses9 h1 (by assumption)).mono ?_; rintro e w' ⟨rfl, rfl⟩)
    | (go_at_call 10; refine (cK _).mono ?_; rintro e w3 ⟨rfl, hB3⟩))
  go_ret
  exact ⟨rfl, (hB1.trans (hB2.mono hB1.size)).trans (hB3.mono (Nat.le_trans hB1.size hB2.size))⟩

/-- the law WorkerNew returns true, whatever the name and the size -/
theorem law3 (s : ByteArray) (n : Int) (w : World) : Calls Tryz.prog 3 #[.string s, .int .i64 n] w fun e w' => e = .returned (.bool true) ∧ Below w.heap.size w w' := by
  by_cases h : s.size ≤ 200
  · by_cases hs : Good s
    · by_cases hn : n < 1 ∨ 64 < n
      · exact law3_bad s n 2 h w (.inr rfl) (new5_size s hs n hn) (new6_size s hs n hn)
      · exact law3_ok s n h hs (by omega) (by omega) w
    · exact law3_bad s n 8 h w (.inl rfl) (new5_name s hs n) (new6_name s hs n)
  · exact law3_long s n (by omega) w
end Go.Proofs.YtdpebmcdjoadeaaGreatDoor
