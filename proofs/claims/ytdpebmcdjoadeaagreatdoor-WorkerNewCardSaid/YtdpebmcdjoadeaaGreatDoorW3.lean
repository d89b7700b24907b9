/- Helper text: what making a worker, or the reference's worker, answers, and what its small methods answer. -/
import Derived.Test.YtdpebmcdjoadeaaGreatDoorW2
import Derived.Carry
namespace Go.Proofs.YtdpebmcdjoadeaaGreatDoor
open Go.RowKit

structure CacheAt (c : Nat) (n : Int) (w : World) : Prop where
  size : w.cell? ⟨c, 0, none⟩ = some (.int .i64 n)
  hits : w.cell? ⟨c, 3, none⟩ = some (.int .i64 0)
  misses : w.cell? ⟨c, 4, none⟩ = some (.int .i64 0)

set_option maxHeartbeats 400000 in
theorem new16_ok (n : Int) (h1 : 1 ≤ n) (h64 : n ≤ 64) (w : World) : Calls Tryz.prog 16 #[.int .i64 n] w fun e w' =>
    ∃ c, e = .returned (.tuple #[.pointer (some ⟨c, 0, none⟩), .int .i64 0]) ∧ w.heap.size ≤ c ∧ CacheAt c n w' ∧ Below w.heap.size w w' := by
  have h1' : ¬ n < 1 := by omega
  have hmm := @run_makeMap Tryz.prog
  go_enter Tryz.func16, Tryz.ntmps16
  go_wp2
  go_ret2
  exact ⟨w.heap.size + 1, rfl, by omega, ⟨by simp, by simp, by simp⟩, ((Below.refl _ w).alloc (Nat.le_refl _) _).alloc (by simp) _⟩
set_option maxHeartbeats 400000 in
theorem new16_bad (n : Int) (h : n < 1 ∨ 64 < n) (w : World) : Calls Tryz.prog 16 #[.int .i64 n] w fun e w' => e = .returned (.tuple #[.pointer none, .int .i64 2]) ∧ w' = w := by
  rcases h with h | h
  · go_enter Tryz.func16, Tryz.ntmps16
    go_wp2
    go_ret2
    exact ⟨rfl, rfl⟩
  · have h1' : ¬ n < 1 := by omega
    have h2' : ¬ n ≤ 64 := by omega
    go_enter Tryz.func16, Tryz.ntmps16
    go_wp2
    go_ret2
    exact ⟨rfl, rfl⟩
set_option maxHeartbeats 400000 in
theorem new18_ok (n : Int) (h1 : 1 ≤ n) (h64 : n ≤ 64) (w : World) : Calls Tryz.prog 18 #[.int .i64 n] w fun e w' =>
    ∃ c, e = .returned (.tuple #[.pointer (some ⟨c, 0, none⟩), .int .i64 0]) ∧ Below w.heap.size w w' := by
  have h1' : ¬ n < 1 := by omega
  go_enter Tryz.func18, Tryz.ntmps18
  go_wp2
  go_ret2
  exact ⟨⟨w.heap.size, rfl⟩, (Below.refl _ w).alloc (Nat.le_refl _) _⟩
set_option maxHeartbeats 400000 in
theorem new18_bad (n : Int) (h : n < 1 ∨ 64 < n) (w : World) : Calls Tryz.prog 18 #[.int .i64 n] w fun e w' => e = .returned (.tuple #[.pointer none, .int .i64 2]) ∧ w' = w := by
  rcases h with h | h
  · go_enter Tryz.func18, Tryz.ntmps18
    go_wp2
    go_ret2
    exact ⟨rfl, rfl⟩
  · have h1' : ¬ n < 1 := by omega
    have h2' : ¬ n ≤ 64 := by omega
    go_enter Tryz.func18, Tryz.ntmps18
    go_wp2
    go_ret2
    exact ⟨rfl, rfl⟩

theorem CacheAt.later {c : Nat} {n : Int} {B : Nat} {w w' : World} (h : CacheAt c n w) (hb : Below B w w') (hc : c < B) : CacheAt c n w' :=
  ⟨(hb.cell (p := ⟨c, 0, none⟩) hc).trans h.size, (hb.cell (p := ⟨c, 3, none⟩) hc).trans h.hits, (hb.cell (p := ⟨c, 4, none⟩) hc).trans h.misses⟩
structure WorkerAt (p : Nat) (s : ByteArray) (n : Int) (w : World) : Prop where
  name : w.cell? ⟨p, 0, none⟩ = some (.string s)
  cache : ∃ c, w.cell? ⟨p, 1, none⟩ = some (.pointer (some ⟨c, 0, none⟩)) ∧ CacheAt c n w ∧ c < w.heap.size
  lt : p < w.heap.size
theorem WorkerAt.later {p : Nat} {s : ByteArray} {n : Int} {w w' : World} (h : WorkerAt p s n w) (hb : Below w.heap.size w w') : WorkerAt p s n w' := by
  obtain ⟨h1, ⟨c, h2, h3, h4⟩, h5⟩ := h
  exact ⟨(hb.cell (p := ⟨p, 0, none⟩) h5).trans h1, ⟨c, (hb.cell (p := ⟨p, 1, none⟩) h5).trans h2, h3.later hb h4, Nat.lt_of_lt_of_le h4 hb.size⟩, Nat.lt_of_lt_of_le h5 hb.size⟩

set_option maxHeartbeats 400000 in
theorem new5_ok (s : ByteArray) (hs : Good s) (n : Int) (h1 : 1 ≤ n) (h64 : n ≤ 64) (w : World) : Calls Tryz.prog 5 #[.string s, .int .i64 n] w fun e w' =>
    ∃ p, e = .returned (.tuple #[.pointer (some ⟨p, 0, none⟩), .int .i64 0]) ∧ WorkerAt p s n w' ∧ Below w.heap.size w w' := by
  have cR := right15_t s hs
  clear hs
  go_enter Tryz.func5, Tryz.ntmps5
  go_wp2_with (first
    | (go_at_call 15; refine (cR _).mono ?_; rintro e w' ⟨rfl, rfl⟩)
    | (go_at_call 16; refine (new16_ok n h1 h64 _).mono ?_; rintro e w2 ⟨c, rfl, hc, hC, hB⟩))
  go_ret2
  have hlt : c < w2.heap.size := World.block_lt_of_cell? _ _ hC.size
  have hB2 := hB.alloc hB.size (.cells #[.string s, .pointer (some ⟨c, 0, none⟩)] 67)
  have hB3 := (Below.refl w2.heap.size w2).alloc (Nat.le_refl _) (.cells #[.string s, .pointer (some ⟨c, 0, none⟩)] 67)
  exact ⟨w2.heap.size, rfl, ⟨by simp, ⟨c, by simp, hC.later hB3 hlt, by simp; omega⟩, by simp⟩, hB2⟩
set_option maxHeartbeats 400000 in
theorem new5_name (s : ByteArray) (hs : ¬ Good s) (n : Int) (w : World) : Calls Tryz.prog 5 #[.string s, .int .i64 n] w fun e w' => e = .returned (.tuple #[.pointer none, .int .i64 8]) ∧ w' = w := by
  have cR := right15_f s hs
  clear hs
  go_enter Tryz.func5, Tryz.ntmps5
  go_wp2_with (go_at_call 15; refine (cR _).mono ?_; rintro e w' ⟨rfl, rfl⟩)
  go_ret2
  exact ⟨rfl, rfl⟩
set_option maxHeartbeats 400000 in
theorem new5_size (s : ByteArray) (hs : Good s) (n : Int) (h : n < 1 ∨ 64 < n) (w : World) : Calls Tryz.prog 5 #[.string s, .int .i64 n] w fun e w' => e = .returned (.tuple #[.pointer none, .int .i64 2]) ∧ w' = w := by
  have cR := right15_t s hs
  have cN := new16_bad n h
  clear hs h
  go_enter Tryz.func5, Tryz.ntmps5
  go_wp2_with (first
    | (go_at_call 15; refine (cR _).mono ?_; rintro e w' ⟨rfl, rfl⟩)
    | (go_at_call 16; refine (cN _).mono ?_; rintro e w2 ⟨rfl, rfl⟩))
  go_ret2
  exact ⟨rfl, rfl⟩

set_option maxHeartbeats 400000 in
theorem new6_ok (s : ByteArray) (hs : Good s) (n : Int) (h1 : 1 ≤ n) (h64 : n ≤ 64) (w : World) : Calls Tryz.prog 6 #[.string s, .int .i64 n] w fun e w' =>
    ∃ p, e = .returned (.tuple #[.pointer (some ⟨p, 0, none⟩), .int .i64 0]) ∧ Below w.heap.size w w' := by
  have cR := right17_t s hs
  clear hs
  go_enter Tryz.func6, Tryz.ntmps6
  go_wp2_with (first
    | (go_at_call 17; refine (cR _).mono ?_; rintro e w' ⟨rfl, rfl⟩)
    | (go_at_call 18; refine (new18_ok n h1 h64 _).mono ?_; rintro e w2 ⟨c, rfl, hB⟩))
  go_ret2
  exact ⟨w2.heap.size, rfl, hB.alloc hB.size _⟩
set_option maxHeartbeats 400000 in
theorem new6_name (s : ByteArray) (hs : ¬ Good s) (n : Int) (w : World) : Calls Tryz.prog 6 #[.string s, .int .i64 n] w fun e w' => e = .returned (.tuple #[.pointer none, .int .i64 8]) ∧ w' = w := by
  have cR := right17_f s hs
  clear hs
  go_enter Tryz.func6, Tryz.ntmps6
  go_wp2_with (go_at_call 17; refine (cR _).mono ?_; rintro e w' ⟨rfl, rfl⟩)
  go_ret2
  exact ⟨rfl, rfl⟩
set_option maxHeartbeats 400000 in
theorem new6_size (s : ByteArray) (hs : Good s) (n : Int) (h : n < 1 ∨ 64 < n) (w : World) : Calls Tryz.prog 6 #[.string s, .int .i64 n] w fun e w' => e = .returned (.tuple #[.pointer none, .int .i64 2]) ∧ w' = w := by
  have cR := right17_t s hs
  have cN := new18_bad n h
  clear hs h
  go_enter Tryz.func6, Tryz.ntmps6
  go_wp2_with (first
    | (go_at_call 17; refine (cR _).mono ?_; rintro e w' ⟨rfl, rfl⟩)
    | (go_at_call 18; refine (cN _).mono ?_; rintro e w2 ⟨rfl, rfl⟩))
  go_ret2
  exact ⟨rfl, rfl⟩

set_option maxHeartbeats 400000 in
theorem none19 {p : Nat} {s : ByteArray} {n : Int} {w : World} (h : WorkerAt p s n w) : Calls Tryz.prog 19 #[.pointer (some ⟨p, 0, none⟩)] w fun e w' => e = .returned (.bool false) ∧ w' = w := by
  obtain ⟨h1, ⟨c, h2, h3, h4⟩, h5⟩ := h
  clear h1 h3 h4 h5
  go_enter Tryz.func19, Tryz.ntmps19
  go_wp2
  go_ret
  exact ⟨rfl, rfl⟩
set_option maxHeartbeats 400000 in
theorem nothing37 {c : Nat} {n : Int} (hn : 1 ≤ n) {w : World} (h : CacheAt c n w) : Calls Tryz.prog 37 #[.pointer (some ⟨c, 0, none⟩)] w fun e w' => e = .returned (.bool false) ∧ w' = w := by
  have h1 := h.size
  clear h
  have hz : (n == 0) = false := by simpa using (show n ≠ 0 by omega)
  go_enter Tryz.func37, Tryz.ntmps37
  go_wp2
  go_ret
  exact ⟨rfl, rfl⟩
set_option maxHeartbeats 400000 in
theorem hits20 {c : Nat} {n : Int} (hn : 1 ≤ n) {w : World} (h : CacheAt c n w) : Calls Tryz.prog 20 #[.pointer (some ⟨c, 0, none⟩)] w fun e w' => e = .returned (.int .i64 0) ∧ w' = w := by
  have h1 := h.hits
  have cN := nothing37 hn h
  clear h
  go_enter Tryz.func20, Tryz.ntmps20
  go_wp2_with (go_at_call 37; refine cN.mono ?_; rintro e w' ⟨rfl, rfl⟩)
  go_ret
  exact ⟨rfl, rfl⟩
set_option maxHeartbeats 400000 in
theorem misses21 {c : Nat} {n : Int} (hn : 1 ≤ n) {w : World} (h : CacheAt c n w) : Calls Tryz.prog 21 #[.pointer (some ⟨c, 0, none⟩)] w fun e w' => e = .returned (.int .i64 0) ∧ w' = w := by
  have h1 := h.misses
  have cN := nothing37 hn h
  clear h
  go_enter Tryz.func21, Tryz.ntmps21
  go_wp2_with (go_at_call 37; refine cN.mono ?_; rintro e w' ⟨rfl, rfl⟩)
  go_ret
  exact ⟨rfl, rfl⟩
set_option maxHeartbeats 400000 in
theorem name7 {p : Nat} {s : ByteArray} {n : Int} {w : World} (h : WorkerAt p s n w) : Calls Tryz.prog 7 #[.pointer (some ⟨p, 0, none⟩)] w fun e w' => e = .returned (.string s) ∧ w' = w := by
  have cN := none19 h
  have h1 := h.name
  clear h
  go_enter Tryz.func7, Tryz.ntmps7
  go_wp2_with (go_at_call 19; refine cN.mono ?_; rintro e w' ⟨rfl, rfl⟩)
  go_ret
  exact ⟨rfl, rfl⟩
set_option maxHeartbeats 400000 in
theorem hits8 {p : Nat} {s : ByteArray} {n : Int} (hn : 1 ≤ n) {w : World} (h : WorkerAt p s n w) : Calls Tryz.prog 8 #[.pointer (some ⟨p, 0, none⟩)] w fun e w' => e = .returned (.int .i64 0) ∧ w' = w := by
  have cN := none19 h
  obtain ⟨c, h1, h2, _⟩ := h.cache
  have cH := hits20 hn h2
  clear h h2
  go_enter Tryz.func8, Tryz.ntmps8
  go_wp2_with (first
    | (go_at_call 19; refine cN.mono ?_; rintro e w' ⟨rfl, rfl⟩)
    | (go_at_call 20; refine cH.mono ?_; rintro e w' ⟨rfl, rfl⟩))
  go_ret
  exact ⟨rfl, rfl⟩
set_option maxHeartbeats 400000 in
theorem misses9 {p : Nat} {s : ByteArray} {n : Int} (hn : 1 ≤ n) {w : World} (h : WorkerAt p s n w) : Calls Tryz.prog 9 #[.pointer (some ⟨p, 0, none⟩)] w fun e w' => e = .returned (.int .i64 0) ∧ w' = w := by
  have cN := none19 h
  obtain ⟨c, h1, h2, _⟩ := h.cache
  have cH := misses21 hn h2
  clear h h2
  go_enter Tryz.func9, Tryz.ntmps9
  go_wp2_with (first
    | (go_at_call 19; refine cN.mono ?_; rintro e w' ⟨rfl, rfl⟩)
    | (go_at_call 21; refine cH.mono ?_; rintro e w' ⟨rfl, rfl⟩))
  go_ret
  exact ⟨rfl, rfl⟩
end Go.Proofs.YtdpebmcdjoadeaaGreatDoor
