/- Helper text: the operations, one by one: what the executor computes is what the model's operation comes to. First part: tools, constants, operands. -/
import Derived.Test.YtdpebmcdjoadeaaGreatDoorAxMem
import Derived.IntWalk
namespace Go.Ax
variable {E : Env} {N : Nat} {μ μ' : Mu} {P : Program}

theorem run_underlying {t : TypeId} {d : TypeDesc} (h : P.underlying t = some d) (w : World) : (underlying t).run P w = .ok d w := by
  simp [underlying, program, Sem.run, h]
theorem run_typeInfo {t : TypeId} {i : TypeInfo} (h : P.info? t = some i) (w : World) : (typeInfo t).run P w = .ok i w := by
  simp [typeInfo, program, Sem.run, h]
theorem run_sizeOf {t : TypeId} {n : Nat} (h : cSize P t = some n) (w : World) : (sizeOf t).run P w = .ok n w := by
  unfold cSize at h
  cases hi : P.info? t with
  | none => rw [hi] at h; cases h
  | some i =>
    rw [hi] at h; simp at h
    simp [sizeOf, run_typeInfo hi, h]
theorem run_isAgg {t : TypeId} {b : Bool} (h : cIsAgg P t = some b) (w : World) : (isAgg t).run P w = .ok b w := by
  unfold cIsAgg at h
  cases hi : P.underlying t with
  | none => rw [hi] at h; cases h
  | some d =>
    rw [hi] at h; simp at h
    simp only [isAgg, bind_run, run_underlying hi]
    cases d <;> simp [isAggD] at h <;> subst h <;> rfl

/-! constants -/
mutual
theorem cVal_ok : ∀ (n : Nat) (v : Value) (a : AV), cVal n v = some a → VRel E μ a v
  | 0, v, a, h => by simp [cVal] at h
  | n + 1, v, a, h => by
    unfold cVal at h
    split at h
    · cases h; exact .bool _
    · cases h; exact .int _ _
    · cases h; exact .str _
    · cases h; exact .nilp
    · cases h; exact .snil
    · cases h; exact .mapnil
    · cases h; exact .nilf
    · cases h; exact .nili
    · rename_i cs
      cases hc : cVal.cVals n cs.toList with
      | none => rw [hc] at h; cases h
      | some l =>
        rw [hc] at h; simp at h; subst h
        have := cVals_ok n cs.toList l hc
        have := VRel.agg this
        simpa using this
    · rename_i cs
      cases hc : cVal.cVals n cs.toList with
      | none => rw [hc] at h; cases h
      | some l =>
        rw [hc] at h; simp at h; subst h
        have := cVals_ok n cs.toList l hc
        have := VRel.tuple this
        simpa using this
    · cases h
theorem cVals_ok : ∀ (n : Nat) (vs : List Value) (l : List AV), cVal.cVals n vs = some l → LRel E μ l vs
  | n, [], l, h => by unfold cVal.cVals at h; cases h; exact .nil
  | n, v :: vs, l, h => by
    unfold cVal.cVals at h
    split at h
    · rename_i a ha
      split at h
      · rename_i as has
        cases h
        exact .cons (cVal_ok n v a ha) (cVals_ok n vs as has)
      · cases h
    · cases h
end
theorem cZero_ok {t : TypeId} {z : AV} (h : cZero P t = some z) : ∃ zv, (∀ w, (zeroValue t).run P w = .ok zv w) ∧ ∀ (E : Env) (μ : Mu), VRel E μ z zv := by
  unfold cZero at h
  cases hi : P.info? t with
  | none => rw [hi] at h; cases h
  | some i =>
    rw [hi] at h
    cases hz : i.zero with
    | none => simp [hz] at h
    | some zv =>
      simp [hz] at h
      exact ⟨zv, fun w => by simp [zeroValue, run_typeInfo hi, hz], fun E μ => cVal_ok 8 zv z h⟩

theorem VRel.cells {v : AV} {v' : Value} (h : VRel E μ v v') : LRel E μ v.cells v'.cells.toList := by
  cases h
  case agg cs cs' h => simpa [AV.cells, Value.cells] using h
  case opq i =>
    have := E.one i
    have h1 : (E.val i).cells = #[E.val i] := by
      cases he : E.val i <;> rw [he] at this <;> first | rfl | (simp [one] at this)
    rw [h1]
    exact .cons (.opq i) .nil
  all_goals exact .cons (by constructor <;> assumption) .nil

/-! operands -/
def Related (E : Env) (μ : Mu) (ρ : Tmps) (a : Act) (x : Operand) : Prop := ∀ v, (cOpd x).f ρ = some v → VRel E μ v (a.eval x)

/-- slots and the model's slots -/
structure TRel (E : Env) (μ : Mu) (n : Nat) (ρ : Tmps) (tmps : Array Value) : Prop where
  size : n ≤ tmps.size
  rel : ∀ t v, T.getF 12 ρ t = some v → ∃ v', tmps[t]? = some v' ∧ VRel E μ v v'
theorem TRel.mono (hm : Mu.le μ μ') {n : Nat} {ρ : Tmps} {tmps : Array Value} (h : TRel E μ n ρ tmps) : TRel E μ' n ρ tmps :=
  ⟨h.size, fun t v e => let ⟨v', a, b⟩ := h.rel t v e; ⟨v', a, b.mono hm⟩⟩

theorem const_related (v : Value) (ρ : Tmps) (a : Act) : Related E μ ρ a (.const v) := by
  intro u hu
  simp only [cOpd] at hu
  cases hc : cVal 8 v with
  | none => rw [hc] at hu; simp [obad] at hu
  | some c =>
    rw [hc] at hu
    simp only [oconst] at hu; cases hu
    exact cVal_ok 8 v _ hc
theorem func_related (f : FuncId) (ρ : Tmps) (a : Act) : Related E μ ρ a (.func f) := by
  intro u hu
  simp only [cOpd, oconst] at hu; cases hu
  exact .func (a' := []) (c' := []) .nil .nil
theorem tmp_some {t : Nat} {ρ : Tmps} {v : AV} (h : (cOpd (.tmp t)).f ρ = some v) : t < 4095 ∧ T.getF 12 ρ t = some v := by
  simp only [cOpd] at h
  split at h
  · rename_i hlt
    have hlt := blt_t hlt
    simp only [otmp] at h
    rw [T.getP_way _ _ hlt] at h
    exact ⟨hlt, h⟩
  · simp [obad] at h
theorem related_of {n : Nat} {ρ : Tmps} {a : Act} (h : TRel E μ n ρ a.tmps) (x : Operand) : Related E μ ρ a x := by
  cases x with
  | tmp t =>
    intro v hv
    obtain ⟨v', h1, h2⟩ := h.rel t v (tmp_some hv).2
    have : a.eval (.tmp t) = v' := by simp [Act.eval, Array.getD_eq_getD_getElem?, h1]
    rw [this]; exact h2
  | const v => exact const_related v ρ a
  | global g => intro v hv; simp [cOpd, obad] at hv
  | func f => exact func_related f ρ a

theorem evs_nil (ρ : Tmps) : evs ρ [] = some [] := rfl
theorem evs_cons (ρ : Tmps) (x : Opd) (xs : List Opd) : evs ρ (x :: xs) = match x.f ρ with
    | none => none
    | some v => match evs ρ xs with
      | none => none
      | some vs => some (v :: vs) := rfl
theorem evs_ok {ρ : Tmps} {a : Act} : ∀ (xs : List Operand) (vs : List AV), (∀ x ∈ xs, Related E μ ρ a x) → evs ρ (cArgs xs) = some vs → LRel E μ vs (xs.map a.eval)
  | [], vs, _, h => by rw [cArgs, evs_nil] at h; cases h; exact .nil
  | x :: xs, vs, hr, h => by
    rw [cArgs, evs_cons] at h
    split at h
    · cases h
    · rename_i v hv
      split at h
      · cases h
      · rename_i us hus
        cases h
        exact .cons (hr x (by simp) v hv) (evs_ok xs us (fun y hy => hr y (by simp [hy])) hus)

/-! numbers -/
theorem leB_eq (a b : Int) : leB a b = decide (a ≤ b) := by
  cases a with
  | ofNat m => cases b with
    | ofNat n =>
      simp only [leB, Int.ofNat_eq_natCast, Int.ofNat_le]
      by_cases h : m ≤ n
      · rw [decide_eq_true h]; simpa using h
      · rw [decide_eq_false h]
        cases hb : Nat.ble m n with
        | true => exact absurd (ble_t hb) h
        | false => rfl
    | negSucc n => simp only [leB]; symm; rw [decide_eq_false_iff_not, Int.ofNat_eq_natCast]; omega
  | negSucc m => cases b with
    | ofNat n => simp only [leB]; symm; rw [decide_eq_true_iff, Int.ofNat_eq_natCast]; omega
    | negSucc n =>
      simp only [leB]
      by_cases h : n ≤ m
      · rw [show Nat.ble n m = true by simpa using h]; symm; rw [decide_eq_true_iff]; omega
      · have : Nat.ble n m = false := by
          cases hb : Nat.ble n m with
          | true => exact absurd (ble_t hb) h
          | false => rfl
        rw [this]; symm; rw [decide_eq_false_iff_not]; omega
theorem ltB_eq (a b : Int) : ltB a b = decide (a < b) := by
  unfold ltB
  rw [leB_eq]
  by_cases h : b ≤ a
  · rw [decide_eq_true h]; symm; rw [decide_eq_false_iff_not]; omega
  · rw [decide_eq_false h]; symm; rw [decide_eq_true_iff]; omega
theorem eqB_eq (a b : Int) : eqB a b = (a == b) := by
  cases a <;> cases b
  · rename_i m n
    simp only [eqB]
    by_cases h : m = n
    · subst h; simp
    · rw [show Nat.beq m n = false by cases hb : Nat.beq m n with | true => exact absurd (beq_t hb) h | false => rfl]
      symm; rw [beq_eq_false_iff_ne]; intro e; cases e; exact h rfl
  · rfl
  · rfl
  · rename_i m n
    simp only [eqB]
    by_cases h : n = m
    · subst h; simp
    · rw [show Nat.beq n m = false by cases hb : Nat.beq n m with | true => exact absurd (beq_t hb) h | false => rfl]
      symm; rw [beq_eq_false_iff_ne]; intro e; cases e; exact h rfl
theorem wrap_ofNat (k : IntKind) (m : Nat) (h : m < topOf k) : k.wrap (Int.ofNat m) = Int.ofNat m := by
  rw [Int.ofNat_eq_natCast]
  cases k <;> simp only [topOf] at h
  · exact IntWalk.i8_in _ (by omega)
  · exact IntWalk.i16_in _ (by omega)
  · exact IntWalk.i32_in _ (by omega)
  · exact IntWalk.i64_in _ (by omega)
  · exact IntWalk.u8_in _ (by omega)
  · exact IntWalk.u16_in _ (by omega)
  · exact IntWalk.u32_in _ (by omega)
  · exact IntWalk.u64_in _ (by omega)
theorem wrap_negSucc (k : IntKind) (m : Nat) (h : m < botOf k) : k.wrap (Int.negSucc m) = Int.negSucc m := by
  rw [Int.negSucc_eq]
  cases k <;> simp only [botOf] at h
  · exact IntWalk.i8_in _ (by omega)
  · exact IntWalk.i16_in _ (by omega)
  · exact IntWalk.i32_in _ (by omega)
  · exact IntWalk.i64_in _ (by omega)
  all_goals omega
theorem wrapF_eq (k : IntKind) (n : Int) : wrapF k n = k.wrap n := by
  cases n with
  | ofNat m =>
    simp only [wrapF]
    split
    · rename_i h; exact (wrap_ofNat k m (blt_t h)).symm
    · rfl
  | negSucc m =>
    simp only [wrapF]
    split
    · rename_i h; exact (wrap_negSucc k m (blt_t h)).symm
    · rfl
theorem kindEq_t {j k : IntKind} (h : kindEq j k = true) : j = k := by
  cases j <;> cases k <;> first | rfl | (simp [kindEq] at h)
theorem boolEq_eq (a b : Bool) : boolEq a b = (a == b) := by cases a <;> cases b <;> rfl
theorem bytesEq_eq : ∀ (a b : List UInt8), bytesEq a b = (a == b)
  | [], [] => rfl
  | [], _ :: _ => rfl
  | _ :: _, [] => rfl
  | a :: x, b :: y => by
    simp only [bytesEq, List.cons_beq_cons]
    by_cases h : a = b
    · subst h
      rw [show Nat.beq a.toNat a.toNat = true from Nat.beq_refl _, bytesEq_eq x y, beq_self_eq_true, Bool.true_and]
    · have h1 : Nat.beq a.toNat b.toNat = false := by
        cases hb : Nat.beq a.toNat b.toNat with
        | true => exact absurd (UInt8.toNat_inj.1 (beq_t hb)) h
        | false => rfl
      rw [h1, show (a == b) = false from beq_eq_false_iff_ne.2 h]; rfl
theorem bytesLt_eq : ∀ (a b : List UInt8), bytesLt a b = Op.bytesLess a b
  | [], [] => rfl
  | _ :: _, [] => rfl
  | [], _ :: _ => rfl
  | a :: x, b :: y => by
    simp only [bytesLt, Op.bytesLess]
    cases h : Nat.blt a.toNat b.toNat with
    | true =>
      have : a < b := UInt8.lt_iff_toNat_lt.2 (blt_t h)
      simp [this]
    | false =>
      have h1 : ¬ a < b := fun hh => by have := UInt8.lt_iff_toNat_lt.1 hh; have := blt_f h; omega
      simp only [h1, decide_false, Bool.false_or]
      by_cases he : a = b
      · subst he
        rw [show Nat.beq a.toNat a.toNat = true from Nat.beq_refl _, bytesLt_eq x y, beq_self_eq_true, Bool.true_and]
      · have h2 : Nat.beq a.toNat b.toNat = false := by
          cases hb : Nat.beq a.toNat b.toNat with
          | true => exact absurd (UInt8.toNat_inj.1 (beq_t hb)) he
          | false => rfl
        rw [h2, show (a == b) = false from beq_eq_false_iff_ne.2 he]; rfl
end Go.Ax
