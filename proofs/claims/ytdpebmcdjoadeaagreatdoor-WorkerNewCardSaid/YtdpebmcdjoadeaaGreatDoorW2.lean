/- Helper text: the two functions that look at a whole name answer alike. -/
import Derived.Test.YtdpebmcdjoadeaaGreatDoorW1
import Derived.WalkSpells
namespace Go.Proofs.YtdpebmcdjoadeaaGreatDoor
open Go.RowKit

def byteAt (s : ByteArray) (k : Nat) : Int := if h : k < s.size then ((s[k]'h).toNat : Int) else 0
def okAt (k : Nat) (c : Int) : Bool := letterB c || (decide (k ≠ 0) && digitB c)
def Good (s : ByteArray) : Prop := 0 < s.size ∧ s.size ≤ 64 ∧ ∀ j, j < s.size → okAt j (byteAt s j) = true

theorem size_of_list (s : ByteArray) : s.toList.isEmpty = decide (s.size = 0) := by
  rw [Go.ByteArray.toList_eq]
  cases e : s.data.toList with
  | nil => simp [ByteArray.size, ← Array.length_toList, e]
  | cons a l => simp [ByteArray.size, ← Array.length_toList, e]

theorem run_idx (s : ByteArray) (k : Nat) (h : k < s.size) (w : World) : (Instr.index 9 (.string s) (.int .i64 (k : Int))).run Tryz.prog w = .ok (.int .u8 (byteAt s k)) w := by
  rw [run_index_string _ _ _ _ _ Tryz.underlying9, dif_pos (by omega)]
  simp [byteAt, h]

set_option maxHeartbeats 400000 in
theorem right15_t (s : ByteArray) (h : Good s) (w : World) : Calls Tryz.prog 15 #[.string s] w fun e w' => e = .returned (.bool true) ∧ w' = w := by
  obtain ⟨h0, h64, hall⟩ := h
  have hne : s.toList.isEmpty = false := by rw [size_of_list]; simpa using (show s.size ≠ 0 by omega)
  have h0i : (0 : Int) < (s.size : Int) := by omega
  have h64i : (s.size : Int) ≤ 64 := by omega
  go_enter Tryz.func15, Tryz.ntmps15
  go_wp2
  go_loop [13] (fun i => ∃ k : Nat, k ≤ s.size ∧ i = .int .i64 k) (fun i => s.size - (intOf i).toNat)
  case atStart => exact ⟨0, by omega, rfl⟩
  case round =>
    obtain ⟨k, hk, rfl⟩ := hrel
    by_cases hlt : k < s.size
    · have hlti : (k : Int) < (s.size : Int) := by omega
      have hk0 : (0 : Int) ≤ (k : Int) := by omega
      have hix := run_idx s k hlt
      have hg := hall k hlt
      clear hall
      generalize byteAt s k = c at hix hg
      by_cases hl : letterB c = true
      · clear hg
        go_wp2_with (go_at_call 35; refine (letter35 _ _).mono ?_; rintro e w' ⟨rfl, rfl⟩)
        exact ⟨⟨k + 1, by omega, by simp⟩, by simp [intOf]; omega⟩
      · have hl0 : letterB c = false := by simpa using hl
        simp only [okAt, hl0, Bool.false_or, Bool.and_eq_true, decide_eq_true_eq, digitB] at hg
        obtain ⟨hz, h48, h57⟩ := hg
        have hkz : ((k : Int) == 0) = false := by simpa using hz
        clear hl
        go_wp2_with (go_at_call 35; refine (letter35 _ _).mono ?_; rintro e w' ⟨rfl, rfl⟩)
        exact ⟨⟨k + 1, by omega, by simp⟩, by simp [intOf]; omega⟩
    · have hge : ¬ (k : Int) < (s.size : Int) := by omega
      clear hall
      go_wp2
      go_ret
      exact ⟨rfl, rfl⟩

set_option maxHeartbeats 400000 in
theorem right15_f (s : ByteArray) (h : ¬ Good s) (w : World) : Calls Tryz.prog 15 #[.string s] w fun e w' => e = .returned (.bool false) ∧ w' = w := by
  by_cases h0 : 0 < s.size
  case neg =>
    have hne : s.toList.isEmpty = true := by rw [size_of_list]; simpa using (show s.size = 0 by omega)
    clear h
    go_enter Tryz.func15, Tryz.ntmps15
    go_wp2
    go_ret
    exact ⟨rfl, rfl⟩
  have hne : s.toList.isEmpty = false := by rw [size_of_list]; simpa using (show s.size ≠ 0 by omega)
  by_cases h64 : s.size ≤ 64
  case neg =>
    have h64i : ¬ (s.size : Int) ≤ 64 := by omega
    have h64j : (64 : Int) < (s.size : Int) := by omega
    clear h
    go_enter Tryz.func15, Tryz.ntmps15
    go_wp2
    go_ret
    exact ⟨rfl, rfl⟩
  have hall : ¬ ∀ j, j < s.size → okAt j (byteAt s j) = true := fun q => h ⟨h0, h64, q⟩
  have HA : Hid (¬ ∀ j, j < s.size → okAt j (byteAt s j) = true) := hall
  clear hall h
  have h0i : (0 : Int) < (s.size : Int) := by omega
  have h64i : (s.size : Int) ≤ 64 := by omega
  go_enter Tryz.func15, Tryz.ntmps15
  go_wp2
  go_loop [13] (fun i => ∃ k : Nat, k ≤ s.size ∧ i = .int .i64 k ∧ Hid (∀ j, j < k → okAt j (byteAt s j) = true)) (fun i => s.size - (intOf i).toNat)
  case atStart => exact ⟨0, by omega, rfl, fun j hj => absurd hj (by omega)⟩
  case round =>
    obtain ⟨k, hk, rfl, HP⟩ := hrel
    by_cases hlt : k < s.size
    · have hlti : (k : Int) < (s.size : Int) := by omega
      have hk0 : (0 : Int) ≤ (k : Int) := by omega
      have hix := run_idx s k hlt
      have HN : Hid (okAt k (byteAt s k) = true → ∀ j, j < k + 1 → okAt j (byteAt s j) = true) := fun q j hj => by
        by_cases e : j = k
        · subst e; exact q
        · exact HP.out j (by omega)
      clear HP
      generalize byteAt s k = c at hix HN
      by_cases hl : letterB c = true
      · have HN' : Hid (∀ j, j < k + 1 → okAt j (byteAt s j) = true) := HN.out (by simp [okAt, hl])
        clear HN
        go_wp2_with (go_at_call 35; refine (letter35 _ _).mono ?_; rintro e w' ⟨rfl, rfl⟩)
        exact ⟨⟨k + 1, by omega, by simp, HN'⟩, by simp [intOf]; omega⟩
      · have hl0 : letterB c = false := by simpa using hl
        by_cases hd : k ≠ 0 ∧ 48 ≤ c ∧ c ≤ 57
        · have HN' : Hid (∀ j, j < k + 1 → okAt j (byteAt s j) = true) := HN.out (by simp [okAt, digitB, hd])
          obtain ⟨hz, h48, h57⟩ := hd
          have hkz : ((k : Int) == 0) = false := by simpa using hz
          clear hl HN
          go_wp2_with (go_at_call 35; refine (letter35 _ _).mono ?_; rintro e w' ⟨rfl, rfl⟩)
          exact ⟨⟨k + 1, by omega, by simp, HN'⟩, by simp [intOf]; omega⟩
        · clear hl HN HA
          by_cases hz : k = 0
          · have hkz : ((k : Int) == 0) = true := by simpa using hz
            clear hd hz
            go_wp2_with (go_at_call 35; refine (letter35 _ _).mono ?_; rintro e w' ⟨rfl, rfl⟩)
            go_ret
            exact ⟨rfl, rfl⟩
          · have hkz : ((k : Int) == 0) = false := by simpa using hz
            by_cases h48 : 48 ≤ c
            · have h57 : ¬ c ≤ 57 := fun q => hd ⟨hz, h48, q⟩
              clear hd
              go_wp2_with (go_at_call 35; refine (letter35 _ _).mono ?_; rintro e w' ⟨rfl, rfl⟩)
              go_ret
              exact ⟨rfl, rfl⟩
            · clear hd
              go_wp2_with (go_at_call 35; refine (letter35 _ _).mono ?_; rintro e w' ⟨rfl, rfl⟩)
              go_ret
              exact ⟨rfl, rfl⟩
    · exact absurd (fun j hj => HP.out j (by omega)) HA.out

theorem letter_not_digit {c : Int} (h : letterB c = true) : ¬ (48 ≤ c ∧ c ≤ 57) := by
  simp [letterB] at h
  omega
theorem run_idx0 (s : ByteArray) (h : 0 < s.size) (w : World) : (Instr.index 9 (.string s) (.int .i64 0)).run Tryz.prog w = .ok (.int .u8 (byteAt s 0)) w := run_idx s 0 h w

set_option maxHeartbeats 400000 in
theorem right17_t (s : ByteArray) (h : Good s) (w : World) : Calls Tryz.prog 17 #[.string s] w fun e w' => e = .returned (.bool true) ∧ w' = w := by
  obtain ⟨h0, h64, hall⟩ := h
  have h0i : (0 : Int) < (s.size : Int) := by omega
  have h1i : ¬ (s.size : Int) < 1 := by omega
  have h64i : (s.size : Int) ≤ 64 := by omega
  have hix0 := run_idx0 s h0
  have hg0 := hall 0 h0
  simp only [okAt, ne_eq, not_true_eq_false, decide_false, Bool.false_and, Bool.or_false] at hg0
  have hnd := letter_not_digit hg0
  clear hg0
  have HA : Hid (∀ j, j < s.size → okAt j (byteAt s j) = true) := hall
  clear hall
  generalize byteAt s 0 = c0 at hix0 hnd
  by_cases h48 : 48 ≤ c0
  · have h57 : ¬ c0 ≤ 57 := fun q => hnd ⟨h48, q⟩
    clear hnd
    go_enter Tryz.func17, Tryz.ntmps17
    go_wp2
    go_loop [3] (fun i => ∃ k : Nat, k ≤ s.size ∧ i = .int .i64 k) (fun i => s.size - (intOf i).toNat)
    case atStart => exact ⟨0, by omega, rfl⟩
    case round =>
      obtain ⟨k, hk, rfl⟩ := hrel
      by_cases hlt : k < s.size
      · have hlti : (k : Int) < (s.size : Int) := by omega
        have hk0 : (0 : Int) ≤ (k : Int) := by omega
        have hix := run_idx s k hlt
        have hg : (letterB (byteAt s k) || digitB (byteAt s k)) = true := by
          have := HA.out k hlt
          simp only [okAt, Bool.or_eq_true, Bool.and_eq_true] at this ⊢
          exact this.imp id (·.2)
        clear HA hix0
        generalize byteAt s k = c at hix hg
        go_wp2_with (go_at_call 36; refine (letter36 _ _).mono ?_; rintro e w' ⟨rfl, rfl⟩)
        exact ⟨⟨k + 1, by omega, by simp⟩, by simp [intOf]; omega⟩
      · have hge : ¬ (k : Int) < (s.size : Int) := by omega
        clear HA hix0
        go_wp2
        go_ret
        exact ⟨rfl, rfl⟩
  · clear hnd
    go_enter Tryz.func17, Tryz.ntmps17
    go_wp2
    go_loop [3] (fun i => ∃ k : Nat, k ≤ s.size ∧ i = .int .i64 k) (fun i => s.size - (intOf i).toNat)
    case atStart => exact ⟨0, by omega, rfl⟩
    case round =>
      obtain ⟨k, hk, rfl⟩ := hrel
      by_cases hlt : k < s.size
      · have hlti : (k : Int) < (s.size : Int) := by omega
        have hk0 : (0 : Int) ≤ (k : Int) := by omega
        have hix := run_idx s k hlt
        have hg : (letterB (byteAt s k) || digitB (byteAt s k)) = true := by
          have := HA.out k hlt
          simp only [okAt, Bool.or_eq_true, Bool.and_eq_true] at this ⊢
          exact this.imp id (·.2)
        clear HA hix0
        generalize byteAt s k = c at hix hg
        go_wp2_with (go_at_call 36; refine (letter36 _ _).mono ?_; rintro e w' ⟨rfl, rfl⟩)
        exact ⟨⟨k + 1, by omega, by simp⟩, by simp [intOf]; omega⟩
      · have hge : ¬ (k : Int) < (s.size : Int) := by omega
        clear HA hix0
        go_wp2
        go_ret
        exact ⟨rfl, rfl⟩

set_option maxHeartbeats 400000 in
theorem right17_f (s : ByteArray) (h : ¬ Good s) (w : World) : Calls Tryz.prog 17 #[.string s] w fun e w' => e = .returned (.bool false) ∧ w' = w := by
  by_cases h0 : 0 < s.size
  case neg =>
    have h1i : (s.size : Int) < 1 := by omega
    clear h
    go_enter Tryz.func17, Tryz.ntmps17
    go_wp2
    go_ret
    exact ⟨rfl, rfl⟩
  have h1i : ¬ (s.size : Int) < 1 := by omega
  by_cases h64 : s.size ≤ 64
  case neg =>
    have h64i : ¬ (s.size : Int) ≤ 64 := by omega
    have h64j : (64 : Int) < (s.size : Int) := by omega
    clear h
    go_enter Tryz.func17, Tryz.ntmps17
    go_wp2
    go_ret
    exact ⟨rfl, rfl⟩
  have hall : ¬ ∀ j, j < s.size → okAt j (byteAt s j) = true := fun q => h ⟨h0, h64, q⟩
  have HA : Hid (¬ ∀ j, j < s.size → okAt j (byteAt s j) = true) := hall
  clear hall h
  have h0i : (0 : Int) < (s.size : Int) := by omega
  have h64i : (s.size : Int) ≤ 64 := by omega
  have hix0 := run_idx0 s h0
  by_cases hd : 48 ≤ byteAt s 0 ∧ byteAt s 0 ≤ 57
  case pos =>
    obtain ⟨h48, h57⟩ := hd
    clear HA
    generalize byteAt s 0 = c0 at hix0 h48 h57
    go_enter Tryz.func17, Tryz.ntmps17
    go_wp2
    go_ret
    exact ⟨rfl, rfl⟩
  have HL : Hid (∀ k, (letterB (byteAt s k) || digitB (byteAt s k)) = true → okAt k (byteAt s k) = true) := fun k q => by
    by_cases e : k = 0
    · subst e
      have : digitB (byteAt s 0) = false := by simpa [digitB] using hd
      simpa [okAt, this] using q
    · simpa [okAt, e] using q
  obtain ⟨c0, hc0⟩ : ∃ c0, c0 = byteAt s 0 := ⟨_, rfl⟩
  rw [← hc0] at hix0 hd
  clear hc0
  by_cases h48 : 48 ≤ c0
  · have h57 : ¬ c0 ≤ 57 := fun q => hd ⟨h48, q⟩
    clear hd
    go_enter Tryz.func17, Tryz.ntmps17
    go_wp2
    go_loop [3] (fun i => ∃ k : Nat, k ≤ s.size ∧ i = .int .i64 k ∧ Hid (∀ j, j < k → okAt j (byteAt s j) = true)) (fun i => s.size - (intOf i).toNat)
    case atStart => exact ⟨0, by omega, rfl, fun j hj => absurd hj (by omega)⟩
    case round =>
      obtain ⟨k, hk, rfl, HP⟩ := hrel
      by_cases hlt : k < s.size
      · have hlti : (k : Int) < (s.size : Int) := by omega
        have hk0 : (0 : Int) ≤ (k : Int) := by omega
        have hix := run_idx s k hlt
        by_cases hg : (letterB (byteAt s k) || digitB (byteAt s k)) = true
        · have HN : Hid (∀ j, j < k + 1 → okAt j (byteAt s j) = true) := fun j hj => by
            by_cases e : j = k
            · subst e; exact HL.out _ hg
            · exact HP.out j (by omega)
          clear HA HP HL hix0
          generalize byteAt s k = c at hix hg
          go_wp2_with (go_at_call 36; refine (letter36 _ _).mono ?_; rintro e w' ⟨rfl, rfl⟩)
          exact ⟨⟨k + 1, by omega, by simp, HN⟩, by simp [intOf]; omega⟩
        · have hgf : (letterB (byteAt s k) || digitB (byteAt s k)) = false := by simpa using hg
          clear HA HP HL hix0 hg
          generalize byteAt s k = c at hix hgf
          go_wp2_with (go_at_call 36; refine (letter36 _ _).mono ?_; rintro e w' ⟨rfl, rfl⟩)
          go_ret
          exact ⟨rfl, rfl⟩
      · exact absurd (fun j hj => HP.out j (by omega)) HA.out
  · clear hd
    go_enter Tryz.func17, Tryz.ntmps17
    go_wp2
    go_loop [3] (fun i => ∃ k : Nat, k ≤ s.size ∧ i = .int .i64 k ∧ Hid (∀ j, j < k → okAt j (byteAt s j) = true)) (fun i => s.size - (intOf i).toNat)
    case atStart => exact ⟨0, by omega, rfl, fun j hj => absurd hj (by omega)⟩
    case round =>
      obtain ⟨k, hk, rfl, HP⟩ := hrel
      by_cases hlt : k < s.size
      · have hlti : (k : Int) < (s.size : Int) := by omega
        have hk0 : (0 : Int) ≤ (k : Int) := by omega
        have hix := run_idx s k hlt
        by_cases hg : (letterB (byteAt s k) || digitB (byteAt s k)) = true
        · have HN : Hid (∀ j, j < k + 1 → okAt j (byteAt s j) = true) := fun j hj => by
            by_cases e : j = k
            · subst e; exact HL.out _ hg
            · exact HP.out j (by omega)
          clear HA HP HL hix0
          generalize byteAt s k = c at hix hg
          go_wp2_with (go_at_call 36; refine (letter36 _ _).mono ?_; rintro e w' ⟨rfl, rfl⟩)
          exact ⟨⟨k + 1, by omega, by simp, HN⟩, by simp [intOf]; omega⟩
        · have hgf : (letterB (byteAt s k) || digitB (byteAt s k)) = false := by simpa using hg
          clear HA HP HL hix0 hg
          generalize byteAt s k = c at hix hgf
          go_wp2_with (go_at_call 36; refine (letter36 _ _).mono ?_; rintro e w' ⟨rfl, rfl⟩)
          go_ret
          exact ⟨rfl, rfl⟩
      · exact absurd (fun j hj => HP.out j (by omega)) HA.out
end Go.Proofs.YtdpebmcdjoadeaaGreatDoor
