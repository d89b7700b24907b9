/- Helper text: the operations that only compute, second half: slices of strings and rows, addresses, parts, struct literals. -/
import Derived.Test.YtdpebmcdjoadeaaGreatDoorAxOpB
namespace Go.Ax
variable {E : Env} {N : Nat} {μ μ' : Mu} {P : Program}

theorem natOf_some {x : Operand} {ρ : Tmps} {a : Act} {n : Nat} (hr : Related E μ ρ a x) (h : natOf ((cOpd x).f ρ) = some n) : ∃ k, a.eval x = .int k (.ofNat n) := by
  unfold natOf at h
  split at h
  · rename_i k m e
    cases h
    have := hr _ e
    generalize a.eval x = v at this
    cases this
    exact ⟨k, rfl⟩
  · cases h
theorem run_bound {k : IntKind} {n y : Nat} (code : BoundsCode) (h : n ≤ y) (w : World) : (Instr.sliceBound (.int k (.ofNat n)) y code).run P w = .ok n w := by
  have h1 : (0 : Int) ≤ Int.ofNat n ∧ Int.ofNat n ≤ (y : Int) := by rw [Int.ofNat_eq_natCast]; omega
  unfold Instr.sliceBound
  simp only [asIntOf]
  show (if (0 : Int) ≤ Int.ofNat n ∧ Int.ofNat n ≤ (y : Int) then pure (Int.ofNat n).toNat else _ : Sem Nat).run P w = _
  rw [if_pos h1]
  rfl
/-- the three bounds, where they hold -/
theorem run_bounds {isSlice : Bool} {len cap : Nat} {lo hi mx : Option Value} {l r m : Nat}
    (hm : (mx = none ∧ m = cap) ∨ (∃ k, mx = some (.int k (.ofNat m)) ∧ hi ≠ none))
    (hr : (hi = none ∧ r = len) ∨ ∃ k, hi = some (.int k (.ofNat r)))
    (hl : (lo = none ∧ l = 0) ∨ ∃ k, lo = some (.int k (.ofNat l))) (h1 : l ≤ r) (h2 : hi ≠ none → r ≤ m) (h3 : m ≤ cap) (w : World) :
    (Instr.sliceBounds isSlice len cap lo hi mx).run P w = .ok (l, r, m) w := by
  unfold Instr.sliceBounds
  rcases hm with ⟨rfl, rfl⟩ | ⟨k, rfl, hne⟩
  · rw [bind_ok (pure_run _ w)]
    rcases hr with ⟨rfl, rfl⟩ | ⟨k, rfl⟩
    · rw [bind_ok (pure_run _ w)]
      rcases hl with ⟨rfl, rfl⟩ | ⟨k', rfl⟩
      · rfl
      · simp only
        rw [bind_ok (run_bound _ h1 w)]; rfl
    · simp only
      rw [bind_ok (run_bound _ (h2 (by simp)) w)]
      rcases hl with ⟨rfl, rfl⟩ | ⟨k', rfl⟩
      · rfl
      · simp only
        rw [bind_ok (run_bound _ h1 w)]; rfl
  · simp only
    rw [bind_ok (run_bound _ h3 w)]
    rcases hr with ⟨rfl, rfl⟩ | ⟨k', rfl⟩
    · exact absurd rfl hne
    · simp only
      rw [bind_ok (run_bound _ (h2 (by simp)) w)]
      rcases hl with ⟨rfl, rfl⟩ | ⟨k'', rfl⟩
      · rfl
      · simp only
        rw [bind_ok (run_bound _ h1 w)]; rfl

theorem optN_some {x : Option Operand} {ρ : Tmps} {a : Act} {d n : Nat} (hr : ∀ y, x = some y → Related E μ ρ a y) (h : optN ρ d (cOpt x) = some n) :
    (x.map a.eval = none ∧ n = d) ∨ ∃ k, x.map a.eval = some (.int k (.ofNat n)) := by
  cases x with
  | none => simp only [cOpt, optN] at h; cases h; exact .inl ⟨rfl, rfl⟩
  | some y =>
    simp only [cOpt, optN] at h
    obtain ⟨k, hk⟩ := natOf_some (hr y rfl) h
    exact .inr ⟨k, by rw [Option.map_some, hk]⟩

theorem extract_data (s : ByteArray) (l r : Nat) : (s.extract l r).data.toList = (s.data.toList.drop l).take (r - l) := by
  rw [ByteArray.data_extract, Array.toList_extract, List.extract_eq_take_drop]
theorem sliceStr_ok (o : Oper) (t : TypeId) (x : Operand) (lo hi : Option Operand) (ho : o.op = .slice t x lo hi none) (ht : P.underlying t = some .string) :
    PureOk P o (sliceStrf (cOpd x) (cOpt lo) (cOpt hi)) := by
  intro E μ ρ a v hr h
  have hx := hr x (by rw [ho]; simp [Op.operands])
  have hlo : ∀ y, lo = some y → Related E μ ρ a y := fun y hy => hr y (by rw [ho, hy]; simp [Op.operands])
  have hhi : ∀ y, hi = some y → Related E μ ρ a y := fun y hy => hr y (by rw [ho, hy]; simp [Op.operands])
  unfold sliceStrf at h
  split at h
  · rename_i l0 e
    have hv := hx _ e
    generalize hxv : a.eval x = xv at hv
    cases hv with | str s => ?_
    split at h
    · rename_i l hl
      split at h
      · rename_i r hr'
        split at h
        · rename_i h1
          split at h
          · rename_i h2
            cases h
            have h1 := ble_t h1
            have h2 := ble_t h2
            have hsz : s.data.toList.length = s.size := by simp
            refine ⟨.string (s.extract l r), ?_, fun w => ?_⟩
            · have := VRel.str (E := E) (μ := μ) (s.extract l r)
              rwa [extract_data] at this
            · simp only [execOp, ho, hxv]
              refine run_value ?_
              unfold Instr.sliceAt
              rw [bind_ok (run_underlying ht w)]
              show (Instr.slice t (.string s) (lo.map a.eval) (hi.map a.eval) none).run P w = _
              unfold Instr.slice
              rw [bind_ok (run_underlying ht w)]
              show (Instr.sliceBounds false s.size s.size (lo.map a.eval) (hi.map a.eval) none >>= _).run P w = _
              have hb := optN_some hhi hr'
              rw [hsz] at hb
              rw [bind_ok (run_bounds (P := P) (isSlice := false) (m := s.size) (.inl ⟨rfl, rfl⟩) hb (optN_some hlo hl) h1 (fun _ => by omega) (Nat.le_refl _) w)]
              rfl
          · cases h
        · cases h
      · cases h
    · cases h
  · cases h

theorem sliceAt_slice {t e : TypeId} (ht : P.underlying t = some (.slice e)) (x : Value) (lo hi mx : Option Value) (w : World) :
    (Instr.sliceAt t x lo hi mx).run P w = (Instr.slice t x lo hi mx).run P w := by
  unfold Instr.sliceAt
  rw [bind_ok (run_underlying ht w)]
theorem slice_run {t e : TypeId} {n : Nat} (ht : P.underlying t = some (.slice e)) (hn : cSize P e = some n) {ad : Option Addr} {len cap : Nat} {lo hi mx : Option Value} {l r m : Nat}
    (hm : (mx = none ∧ m = cap) ∨ (∃ k, mx = some (.int k (.ofNat m)) ∧ hi ≠ none))
    (hr : (hi = none ∧ r = len) ∨ ∃ k, hi = some (.int k (.ofNat r)))
    (hl : (lo = none ∧ l = 0) ∨ ∃ k, lo = some (.int k (.ofNat l))) (h1 : l ≤ r) (h2 : hi ≠ none → r ≤ m) (h3 : m ≤ cap) (w : World) :
    (Instr.sliceAt t (.slice ad len cap) lo hi mx).run P w = .ok (.slice (if m = l then ad else ad.map (·.add (l * n))) (r - l) (m - l)) w := by
  rw [sliceAt_slice ht]
  unfold Instr.slice
  rw [bind_ok (run_underlying ht w)]
  show (Instr.sliceBounds true len cap lo hi mx >>= _).run P w = _
  rw [bind_ok (run_bounds (P := P) hm hr hl h1 h2 h3 w)]
  show (sizeOf e >>= _).run P w = _
  rw [bind_ok (run_sizeOf hn w)]
  rfl

theorem mul_part {l m z : Nat} (h : l ≤ m) : l * z + (m - l) * z = m * z := by
  rw [← Nat.add_mul]; congr 1; omega
theorem VRel.sliceOf {b o cap z l r m : Nat} {loose : Bool} {v : AV} {x : Loc} {cap' : Nat} (hb : μ b = some x) (hs : x.s ≤ o) (hm' : m ≤ cap')
    (hn : o - x.s + cap' * z ≤ x.n) (ht : loose = false) (h : sliceOf b o cap z loose l r m = some v) :
    VRel E μ v (.slice (if m = l then some ⟨x.B, o - x.s, none⟩ else (some (⟨x.B, o - x.s, none⟩ : Addr)).map (·.add (l * z))) (r - l) (m - l)) ∧ l ≤ r ∧ r ≤ m ∧ m ≤ cap := by
  unfold Ax.sliceOf at h
  split at h
  · rename_i h1
    split at h
    · rename_i h2
      split at h
      · rename_i h3
        have h1 := ble_t h1
        have h2 := ble_t h2
        have h3 := ble_t h3
        have hz : m * z ≤ cap' * z := Nat.mul_le_mul_right z hm'
        have hp := mul_part (z := z) (Nat.le_trans h1 h2)
        refine ⟨?_, h1, h2, h3⟩
        cases h
        subst ht
        cases he : Nat.beq m l with
        | true =>
          have := beq_t he
          subst this
          rw [if_pos rfl]
          exact .slice hb hs (by simp only [Nat.sub_eq]; omega) (Nat.le_refl _) (fun _ => rfl) (by simp; omega)
        | false =>
          have := beq_f he
          rw [if_neg this, Option.map_some, add_addr]
          have e1 : o - x.s + l * z = Nat.add o (Nat.mul l z) - x.s := by simp only [Nat.add_eq, Nat.mul_eq]; omega
          rw [e1]
          exact .slice hb (by simp only [Nat.add_eq]; omega) (by simp only [Nat.sub_eq]; omega) (Nat.le_refl _) (fun _ => rfl) (by simp only [Nat.add_eq, Nat.mul_eq]; omega)
      · cases h
    · cases h
  · cases h
theorem sliceSl_ok (o : Oper) (t e : TypeId) {n : Nat} (x : Operand) (lo hi mx : Option Operand) (ho : o.op = .slice t x lo hi mx) (ht : P.underlying t = some (.slice e)) (hn : cSize P e = some n)
    (hmx : mx ≠ none → hi ≠ none) : PureOk P o (sliceSlf n (cOpd x) (cOpt lo) (cOpt hi) (cOpt mx)) := by
  intro E μ ρ a v hr h
  have hx := hr x (by rw [ho]; simp [Op.operands])
  have hlo : ∀ y, lo = some y → Related E μ ρ a y := fun y hy => hr y (by rw [ho, hy]; simp [Op.operands])
  have hhi : ∀ y, hi = some y → Related E μ ρ a y := fun y hy => hr y (by rw [ho, hy]; simp [Op.operands])
  have hm : ∀ y, mx = some y → Related E μ ρ a y := fun y hy => hr y (by rw [ho, hy]; simp [Op.operands])
  have hmx' : mx.map a.eval ≠ none → hi.map a.eval ≠ none := by
    intro h1 h2
    cases mx with
    | none => exact h1 rfl
    | some _ => cases hi with
      | none => exact hmx (by simp) rfl
      | some _ => cases h2
  have run : ∀ {ad : Option Addr} {len cap l r m : Nat}, a.eval x = .slice ad len cap →
      ((mx.map a.eval = none ∧ m = cap) ∨ ∃ k, mx.map a.eval = some (.int k (.ofNat m))) → optN ρ len (cOpt hi) = some r → optN ρ 0 (cOpt lo) = some l → l ≤ r → r ≤ m → m ≤ cap →
      ∀ w, (execOp a.eval o).run P w = .ok (.value (.slice (if m = l then ad else ad.map (·.add (l * n))) (r - l) (m - l))) w := by
    intro ad len cap l r m hxv hmm hr' hl h1 h2 h3 w
    simp only [execOp, ho, hxv]
    refine run_value (slice_run ht hn ?_ (optN_some hhi hr') (optN_some hlo hl) h1 (fun _ => h2) h3 w)
    rcases hmm with h | ⟨k, h⟩
    · exact .inl h
    · exact .inr ⟨k, h, hmx' (by rw [h]; simp)⟩
  unfold sliceSlf at h
  split at h
  · -- nil
    rename_i e
    have hv := hx _ e
    generalize hxv : a.eval x = xv at hv
    cases hv
    split at h
    · rename_i hl
      split at h
      · rename_i hr'
        split at h
        · rename_i hm'
          cases h
          refine ⟨_, .snil, fun w => ?_⟩
          have := run hxv (optN_some (d := 0) hm hm') hr' hl (Nat.le_refl _) (Nat.le_refl _) (Nat.le_refl _) w
          simpa using this
        · cases h
      · cases h
    · cases h
  · rename_i b off len cap z loose e
    have hv := hx _ e
    generalize hxv : a.eval x = xv at hv
    cases hv with | slice hb hs hlen hc htight hnn => ?_
    rename_i cap' loc
    split at h
    · rename_i hz
      have hz := beq_t hz
      subst hz
      split at h
      · rename_i l hl
        split at h
        · rename_i r hr'
          split at h
          · rename_i hmn
            have hmn' : mx = none := by cases mx with | none => rfl | some _ => simp [cOpt] at hmn
            subst hmn'
            split at h
            · have hcc := htight rfl
              subst hcc
              obtain ⟨g1, g2, g3, g4⟩ := VRel.sliceOf (E := E) hb hs (Nat.le_refl _) hnn rfl h
              exact ⟨_, g1, fun w => run hxv (.inl ⟨rfl, rfl⟩) hr' hl g2 g3 g4 w⟩
            · split at h
              · rename_i h1
                have h1 := ble_t h1
                split at h
                · rename_i h2
                  have h2 := ble_t h2
                  split at h
                  · rename_i hl0
                    have hl0 := beq_t hl0
                    subst hl0
                    cases h
                    refine ⟨_, .slice hb hs h2 hc (fun e => by cases e) hnn, fun w => ?_⟩
                    have := run hxv (.inl ⟨rfl, rfl⟩) hr' hl (Nat.zero_le _) (by omega) (Nat.le_refl _) w
                    rw [this]
                    congr 3
                    split <;> simp [Addr.add]
                  · split at h
                    · rename_i hlc
                      have hlc := blt_t hlc
                      cases h
                      have hp := mul_part (z := z) (l := l) (m := cap') (by omega)
                      have e1 : off - loc.s + l * z = Nat.add off (Nat.mul l z) - loc.s := by simp only [Nat.add_eq, Nat.mul_eq]; omega
                      refine ⟨.slice (some ⟨loc.B, Nat.add off (Nat.mul l z) - loc.s, none⟩) (r - l) (cap' - l), .slice hb (by simp only [Nat.add_eq]; omega) (by simp only [Nat.sub_eq]; omega) (by simp only [Nat.sub_eq]; omega) (fun e => by cases e) (by simp only [Nat.add_eq, Nat.mul_eq]; omega), fun w => ?_⟩
                      have := run hxv (.inl ⟨rfl, rfl⟩) hr' hl h1 (by omega) (Nat.le_refl _) w
                      rw [this, if_neg (by omega), Option.map_some, add_addr, e1]
                    · cases h
                · cases h
              · cases h
          · rename_i mo hmo
            cases mx with
            | none => simp [cOpt] at hmo
            | some my =>
              simp only [cOpt, Option.some.injEq] at hmo
              subst hmo
              split at h
              · rename_i m hm'
                obtain ⟨k, hk⟩ := natOf_some (hm my rfl) hm'
                have hmc : m ≤ cap := by
                  unfold sliceOf at h
                  split at h
                  · split at h
                    · split at h
                      · rename_i h3; exact ble_t h3
                      · cases h
                    · cases h
                  · cases h
                obtain ⟨g1, g2, g3, g4⟩ := VRel.sliceOf (E := E) hb hs (Nat.le_trans hmc hc) hnn rfl h
                exact ⟨_, g1, fun w => run hxv (.inr ⟨k, by rw [Option.map_some, hk]⟩) hr' hl g2 g3 (by omega) w⟩
              · cases h
        · cases h
      · cases h
    · cases h
  · cases h
end Go.Ax
