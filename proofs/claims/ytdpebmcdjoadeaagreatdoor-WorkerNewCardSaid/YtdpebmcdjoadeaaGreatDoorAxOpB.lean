/- Helper text: the operations that only compute. -/
import Derived.Test.YtdpebmcdjoadeaaGreatDoorAxOpA
import Derived.Laws.Strings
namespace Go.Ax
variable {E : Env} {N : Nat} {μ μ' : Mu} {P : Program}

def PureOk (P : Program) (o : Oper) (f : Tmps → Option AV) : Prop :=
  ∀ (E : Env) (μ : Mu) (ρ : Tmps) (a : Act) (v : AV), (∀ x ∈ o.op.operands.toList, Related E μ ρ a x) → f ρ = some v →
    ∃ v', VRel E μ v v' ∧ ∀ w, (execOp a.eval o).run P w = .ok (.value v') w

theorem run_value {s : Sem Value} {w w' : World} {v : Value} (h : s.run P w = .ok v w') : (do pure (Next.value (← s)) : Sem Next).run P w = .ok (.value v) w' := by
  rw [bind_run, h]; rfl

theorem move_ok (o : Oper) (x : Operand) (ho : o.op = .move x ∨ o.op = .assign x) : PureOk P o (cOpd x).f := by
  intro E μ ρ a v hr h
  refine ⟨a.eval x, ?_, fun w => ?_⟩
  · rcases ho with ho | ho <;> exact hr x (by rw [ho]; simp [Op.operands]) v h
  · rcases ho with ho | ho <;> simp [execOp, ho]
theorem pick_ok (o : Oper) (c x y : Operand) (ho : o.op = .pick c x y) : PureOk P o (pickf (cOpd c) (cOpd x) (cOpd y)) := by
  intro E μ ρ a v hr h
  have hc := hr c (by rw [ho]; simp [Op.operands])
  have hx := hr x (by rw [ho]; simp [Op.operands])
  have hy := hr y (by rw [ho]; simp [Op.operands])
  unfold pickf at h
  split at h
  · rename_i e
    have := hc _ e
    generalize hcv : a.eval c = cv at this
    cases this
    exact ⟨a.eval x, hx v h, fun w => by simp [execOp, ho, hcv, asBool]⟩
  · rename_i e
    have := hc _ e
    generalize hcv : a.eval c = cv at this
    cases this
    exact ⟨a.eval y, hy v h, fun w => by simp [execOp, ho, hcv, asBool]⟩
  · cases h
theorem nilCheck_ok (o : Oper) (x : Operand) (ho : o.op = .nilCheck x) : PureOk P o (nilCheckf (cOpd x)) := by
  intro E μ ρ a v hr h
  have hx := hr x (by rw [ho]; simp [Op.operands])
  unfold nilCheckf at h
  split at h
  · rename_i e
    cases h
    have hv := hx _ e
    generalize hxv : a.eval x = xv at hv
    refine ⟨xv, hv, fun w => ?_⟩
    cases hv
    simp [execOp, ho, hxv]
  · rename_i e
    cases h
    have hv := hx _ e
    generalize hxv : a.eval x = xv at hv
    refine ⟨xv, hv, fun w => ?_⟩
    cases hv
    simp [execOp, ho, hxv]
  · cases h

/-! binary operations -/
def BinOk (P : Program) (op : BinOp) (t : TypeId) (x y : Operand) (f : AV → AV → Option AV) : Prop :=
  ∀ (E : Env) (μ : Mu) (ρ : Tmps) (a : Act) (u u' v : AV), (cOpd x).f ρ = some u → (cOpd y).f ρ = some u' → VRel E μ u (a.eval x) → VRel E μ u' (a.eval y) → f u u' = some v →
    ∃ v', VRel E μ v v' ∧ ∀ w, (do eqGuard op t x y (a.eval x) (a.eval y); binOp op t (a.eval x) (a.eval y) : Sem Value).run P w = .ok v' w
theorem bin_ok {op : BinOp} {t t' : TypeId} {x y : Operand} {f : AV → AV → Option AV} (hb : BinOk P op t x y f) (o : Oper) (ho : o.op = .binOp op t x y t') :
    PureOk P o (binf f (cOpd x) (cOpd y)) := by
  intro E μ ρ a v hr h
  have hx := hr x (by rw [ho]; simp [Op.operands])
  have hy := hr y (by rw [ho]; simp [Op.operands])
  unfold binf at h
  split at h
  · rename_i u hu
    split at h
    · rename_i u' hu'
      obtain ⟨v', h1, h2⟩ := hb E μ ρ a u u' v hu hu' (hx _ hu) (hy _ hu') h
      refine ⟨v', h1, fun w => ?_⟩
      simp only [execOp, ho]
      exact run_value (h2 w)
    · cases h
  · cases h
/-- where the operation is no test for equality -/
theorem binOk_of {op : BinOp} {t : TypeId} {x y : Operand} {f : AV → AV → Option AV} (hne : (op matches .eql | .neq) = false)
    (hb : ∀ (E : Env) (μ : Mu) (u u' v : AV) (a b : Value), VRel E μ u a → VRel E μ u' b → f u u' = some v → ∃ v', VRel E μ v v' ∧ ∀ w, (binOp op t a b).run P w = .ok v' w) :
    BinOk P op t x y f := by
  intro E μ ρ a u u' v _ _ hu hu' hf
  obtain ⟨v', h1, h2⟩ := hb E μ u u' v _ _ hu hu' hf
  refine ⟨v', h1, fun w => ?_⟩
  have hg : (eqGuard op t x y (a.eval x) (a.eval y)).run P w = .ok () w := by
    cases op <;> first | rfl | (simp at hne)
  rw [bind_ok hg]
  exact h2 w

theorem add_ok (t : TypeId) (x y : Operand) : BinOk P .add t x y add2 := by
  refine binOk_of rfl fun E μ u u' v a b ha hb h => ?_
  unfold add2 at h
  split at h
  · split at h
    · rename_i k
      have := kindEq_t k; subst this
      cases h; cases ha; cases hb
      exact ⟨_, .int _ _, fun w => by rw [wrapF_eq]; simp [binOp, Op.intArith]⟩
    · cases h
  · split at h
    · rename_i hlt
      have hlt := blt_t hlt
      cases h
      cases ha with | str s => ?_
      cases hb with | str s' => ?_
      refine ⟨.string (s ++ s'), ?_, fun w => ?_⟩
      · have := VRel.str (E := E) (μ := μ) (s ++ s')
        rw [show (s ++ s').data.toList = s.data.toList ++ s'.data.toList by simp] at this
        exact this
      · have h1 : ¬ (IntKind.i64.max < (s.size : Int) + (s'.size : Int)) := by
          have e1 : s.data.toList.length = s.size := by simp
          have e2 : s'.data.toList.length = s'.size := by simp
          simp only [Nat.add_eq] at hlt
          have : IntKind.i64.max = 9223372036854775807 := by decide
          rw [this]; omega
        show (Op.stringOp .add s s').run P w = _
        unfold Op.stringOp
        simp only [gt_iff_lt, Int.natCast_add]
        rw [if_neg h1]
        rfl
    · cases h
  · cases h
theorem int2_ok {op : BinOp} {t : TypeId} {x y : Operand} {f : IntKind → Int → Int → Option AV} (hne : (op matches .eql | .neq) = false)
    (hb : ∀ (k : IntKind) (a b : Int) (v : AV), f k a b = some v → ∃ n, v = .int k n ∧ ∀ w, (binOp op t (.int k a) (.int k b)).run P w = .ok (.int k n) w) :
    BinOk P op t x y (int2 f) := by
  refine binOk_of hne fun E μ u u' v a b ha hb' h => ?_
  unfold int2 at h
  split at h
  · split at h
    · rename_i hk
      have := kindEq_t hk; subst this
      cases ha; cases hb'
      obtain ⟨n, rfl, h2⟩ := hb _ _ _ _ h
      exact ⟨_, .int _ _, h2⟩
    · cases h
  · cases h
theorem sub_ok (t : TypeId) (x y : Operand) : BinOk P .sub t x y (int2 subI) :=
  int2_ok rfl fun k a b v h => by
    unfold subI at h; cases h
    exact ⟨_, rfl, fun w => by rw [wrapF_eq]; simp [binOp, Op.intArith]; rfl⟩
theorem mul_ok (t : TypeId) (x y : Operand) : BinOk P .mul t x y (int2 mulI) :=
  int2_ok rfl fun k a b v h => by
    unfold mulI at h; cases h
    exact ⟨_, rfl, fun w => by rw [wrapF_eq]; simp [binOp, Op.intArith]⟩
theorem quo_ok (t : TypeId) (x y : Operand) : BinOk P .quo t x y (int2 quoI) :=
  int2_ok rfl fun k a b v h => by
    unfold quoI at h
    split at h
    · cases h
    · rename_i hz
      rw [eqB_eq] at hz
      have hz : ¬ b = 0 := by simpa using hz
      cases h
      exact ⟨_, rfl, fun w => by rw [wrapF_eq]; simp [binOp, Op.intDiv, hz]⟩
theorem rem_ok (t : TypeId) (x y : Operand) : BinOk P .rem t x y (int2 remI) :=
  int2_ok rfl fun k a b v h => by
    unfold remI at h
    split at h
    · cases h
    · rename_i hz
      rw [eqB_eq] at hz
      have hz : ¬ b = 0 := by simpa using hz
      cases h
      exact ⟨_, rfl, fun w => by simp [binOp, Op.intDiv, hz]⟩
theorem bits_ok (op : BinOp) (h4 : op = .and ∨ op = .or ∨ op = .xor ∨ op = .andNot) (t : TypeId) (x y : Operand) : BinOk P op t x y (int2 (bitsI op)) :=
  int2_ok (by rcases h4 with rfl | rfl | rfl | rfl <;> rfl) fun k a b v h => by
    rcases h4 with rfl | rfl | rfl | rfl <;> unfold bitsI at h <;> cases h <;>
      exact ⟨_, rfl, fun w => by rw [wrapF_eq]; simp [binOp, Op.intBits]⟩
theorem bytesLess_total : ∀ (a b : List UInt8), (Op.bytesLess a b || a == b) = !Op.bytesLess b a
  | [], [] => rfl
  | _ :: _, [] => rfl
  | [], _ :: _ => rfl
  | a :: x, b :: y => by
    simp only [Op.bytesLess, List.cons_beq_cons]
    rcases Nat.lt_trichotomy a.toNat b.toNat with h | h | h
    · have h1 : a < b := UInt8.lt_iff_toNat_lt.2 h
      have h2 : ¬ b < a := fun hh => by have := UInt8.lt_iff_toNat_lt.1 hh; omega
      have h3 : (b == a) = false := beq_eq_false_iff_ne.2 (fun e => by subst e; omega)
      rw [decide_eq_true h1, decide_eq_false h2, h3]; rfl
    · have e := UInt8.toNat_inj.1 h
      subst e
      have h2 : ¬ a < a := fun hh => by have := UInt8.lt_iff_toNat_lt.1 hh; omega
      rw [decide_eq_false h2, beq_self_eq_true, Bool.false_or, Bool.true_and, Bool.true_and, Bool.false_or, Bool.true_and]
      exact bytesLess_total x y
    · have h1 : b < a := UInt8.lt_iff_toNat_lt.2 h
      have h2 : ¬ a < b := fun hh => by have := UInt8.lt_iff_toNat_lt.1 hh; omega
      have h3 : (a == b) = false := beq_eq_false_iff_ne.2 (fun e => by subst e; omega)
      rw [decide_eq_true h1, decide_eq_false h2, h3]; rfl
theorem lss_run (t : TypeId) {u u' v : AV} {a b : Value} (ha : VRel E μ u a) (hb : VRel E μ u' b) (h : lss2 u u' = some v) :
    ∃ v', VRel E μ v v' ∧ (∀ w, (binOp .lss t a b).run P w = .ok v' w) ∧ (∀ w, (binOp .gtr t b a).run P w = .ok v' w) := by
  unfold lss2 at h
  split at h
  · split at h
    · rename_i hk
      have := kindEq_t hk; subst this
      cases h; cases ha; cases hb
      exact ⟨_, .bool _, fun w => by rw [ltB_eq]; simp [binOp, Op.intCmp], fun w => by rw [ltB_eq]; simp [binOp, Op.intCmp]⟩
    · cases h
  · cases h
    cases ha with | str s => ?_
    cases hb with | str s' => ?_
    refine ⟨_, .bool _, fun w => ?_, fun w => ?_⟩
    · rw [bytesLt_eq]; simp [binOp, Op.stringOp, Go.ByteArray.toList_eq]
    · have := bytesLess_total s'.data.toList s.data.toList
      show (Op.stringOp .gtr s' s).run P w = _
      simp only [Op.stringOp, Go.ByteArray.toList_eq]
      rw [this, bytesLt_eq, Bool.not_not]; rfl
  · cases h
theorem leq_run (t : TypeId) {u u' v : AV} {a b : Value} (ha : VRel E μ u a) (hb : VRel E μ u' b) (h : leq2 u u' = some v) :
    ∃ v', VRel E μ v v' ∧ (∀ w, (binOp .leq t a b).run P w = .ok v' w) ∧ (∀ w, (binOp .geq t b a).run P w = .ok v' w) := by
  unfold leq2 at h
  split at h
  · split at h
    · rename_i hk
      have := kindEq_t hk; subst this
      cases h; cases ha; cases hb
      exact ⟨_, .bool _, fun w => by rw [leB_eq]; simp [binOp, Op.intCmp], fun w => by rw [leB_eq]; simp [binOp, Op.intCmp]⟩
    · cases h
  · cases h
    cases ha with | str s => ?_
    cases hb with | str s' => ?_
    refine ⟨.bool (!Op.bytesLess s'.data.toList s.data.toList), ?_, fun w => ?_, fun w => ?_⟩
    · rw [bytesLt_eq]
      cases Op.bytesLess s'.data.toList s.data.toList <;> exact .bool _
    · have := bytesLess_total s.data.toList s'.data.toList
      show (Op.stringOp .leq s s').run P w = _
      simp only [Op.stringOp, Go.ByteArray.toList_eq]
      rw [this]; rfl
    · show (Op.stringOp .geq s' s).run P w = _
      simp only [Op.stringOp, Go.ByteArray.toList_eq]
      rfl
  · cases h
theorem lss_ok (t : TypeId) (x y : Operand) : BinOk P .lss t x y lss2 :=
  binOk_of rfl fun _ _ _ _ _ _ _ ha hb h => let ⟨v', h1, h2, _⟩ := lss_run t ha hb h; ⟨v', h1, h2⟩
theorem leq_ok (t : TypeId) (x y : Operand) : BinOk P .leq t x y leq2 :=
  binOk_of rfl fun _ _ _ _ _ _ _ ha hb h => let ⟨v', h1, h2, _⟩ := leq_run t ha hb h; ⟨v', h1, h2⟩
theorem gtr_ok (t : TypeId) (x y : Operand) : BinOk P .gtr t x y gtr2 :=
  binOk_of rfl fun _ _ _ _ _ _ _ ha hb h => let ⟨v', h1, _, h2⟩ := lss_run t hb ha h; ⟨v', h1, h2⟩
theorem geq_ok (t : TypeId) (x y : Operand) : BinOk P .geq t x y geq2 :=
  binOk_of rfl fun _ _ _ _ _ _ _ ha hb h => let ⟨v', h1, _, h2⟩ := leq_run t hb ha h; ⟨v', h1, h2⟩
theorem shl_ok (t : TypeId) (x y : Operand) : BinOk P .shl t x y shl2 := by
  refine binOk_of rfl fun E μ u u' v a b ha hb h => ?_
  unfold shl2 at h
  split at h
  · cases h; cases ha; cases hb
    refine ⟨_, .int _ _, fun w => ?_⟩
    rw [wrapF_eq]
    rename_i k n j m
    have h1 : ¬ (Int.ofNat m < 0) := by rw [Int.ofNat_eq_natCast]; omega
    show (Op.shift .shl k n j (Int.ofNat m)).run P w = _
    unfold Op.shift
    rw [if_neg h1]
    simp
  · cases h
theorem shr_ok (t : TypeId) (x y : Operand) : BinOk P .shr t x y shr2 := by
  refine binOk_of rfl fun E μ u u' v a b ha hb h => ?_
  unfold shr2 at h
  split at h
  · cases h; cases ha; cases hb
    refine ⟨_, .int _ _, fun w => ?_⟩
    rename_i k n j m
    have h1 : ¬ (Int.ofNat m < 0) := by rw [Int.ofNat_eq_natCast]; omega
    show (Op.shift .shr k n j (Int.ofNat m)).run P w = _
    unfold Op.shift
    rw [if_neg h1]
    simp
  · cases h

/-! equality -/
def EqOk (P : Program) (t : TypeId) (x y : Operand) (f : AV → AV → Option Bool) : Prop :=
  ∀ (E : Env) (μ : Mu) (ρ : Tmps) (a : Act) (u u' : AV) (r : Bool), (cOpd x).f ρ = some u → (cOpd y).f ρ = some u' → VRel E μ u (a.eval x) → VRel E μ u' (a.eval y) → f u u' = some r →
    (∀ op, ∀ w, (eqGuard op t x y (a.eval x) (a.eval y)).run P w = .ok () w) ∧
    (∀ w, (binOp .eql t (a.eval x) (a.eval y)).run P w = .ok (.bool r) w) ∧ (∀ w, (binOp .neq t (a.eval x) (a.eval y)).run P w = .ok (.bool !r) w)
theorem eql_ok {t : TypeId} {x y : Operand} {f : AV → AV → Option Bool} (hf : EqOk P t x y f) : BinOk P .eql t x y (eqOf false f) := by
  intro E μ ρ a u u' v hu hu' ha hb h
  unfold eqOf at h
  split at h
  · rename_i r hr
    cases h
    obtain ⟨h1, h2, _⟩ := hf E μ ρ a u u' r hu hu' ha hb hr
    exact ⟨_, .bool _, fun w => by rw [bind_ok (h1 _ w)]; exact h2 w⟩
  · cases h
theorem neq_ok {t : TypeId} {x y : Operand} {f : AV → AV → Option Bool} (hf : EqOk P t x y f) : BinOk P .neq t x y (eqOf true f) := by
  intro E μ ρ a u u' v hu hu' ha hb h
  unfold eqOf at h
  split at h
  · rename_i r hr
    cases h
    obtain ⟨h1, _, h2⟩ := hf E μ ρ a u u' r hu hu' ha hb hr
    refine ⟨_, .bool _, fun w => by rw [bind_ok (h1 _ w)]; rw [h2 w]; cases r <;> rfl⟩
  · cases h
theorem eqGuard_plain (op : BinOp) (t : TypeId) (x y : Operand) {a b : Value} (h1 : a ≠ .nilIface ∨ b ≠ .nilIface) (h2 : one a = true ∨ one b = true) (w : World) :
    (eqGuard op t x y a b).run P w = .ok () w := by
  unfold eqGuard
  cases a <;> cases b <;> first | (simp [one] at h2; done) | (simp at h1; done) | (cases op <;> rfl)
theorem eqInt_ok (t : TypeId) (x y : Operand) : EqOk P t x y eqInt := by
  intro E μ ρ a u u' r _ _ ha hb h
  unfold eqInt at h
  split at h
  · split at h
    · rename_i hk
      have := kindEq_t hk; subst this
      cases h
      generalize a.eval x = vx at ha ⊢
      generalize a.eval y = vy at hb ⊢
      cases ha; cases hb
      refine ⟨fun op w => eqGuard_plain _ _ _ _ (by simp) (by simp [one]) w, fun w => ?_, fun w => ?_⟩
      · rw [eqB_eq]; simp [binOp, Op.intCmp]
      · rw [eqB_eq]; simp [binOp, Op.intCmp, bne]
    · cases h
  · cases h
theorem eqStr_ok (t : TypeId) (x y : Operand) : EqOk P t x y eqStr := by
  intro E μ ρ a u u' r _ _ ha hb h
  unfold eqStr at h
  split at h
  · cases h
    generalize a.eval x = vx at ha ⊢
    generalize a.eval y = vy at hb ⊢
    cases ha; cases hb
    refine ⟨fun op w => eqGuard_plain _ _ _ _ (by simp) (by simp [one]) w, fun w => ?_, fun w => ?_⟩
    · rw [bytesEq_eq]; simp [binOp, Op.stringOp, Go.ByteArray.toList_eq]
    · rw [bytesEq_eq]; simp [binOp, Op.stringOp, Go.ByteArray.toList_eq]
  · cases h
theorem equal_runs {t : TypeId} {a b : Value} {r : Bool} (h : ∀ w, (Op.equal t a b).run P w = .ok r w)
    (h1 : binOp .eql t a b = (do pure (.bool (← Op.equal t a b)))) (h2 : binOp .neq t a b = (do pure (.bool (!(← Op.equal t a b))))) :
    (∀ w, (binOp .eql t a b).run P w = .ok (.bool r) w) ∧ (∀ w, (binOp .neq t a b).run P w = .ok (.bool !r) w) := by
  refine ⟨fun w => ?_, fun w => ?_⟩
  · rw [h1, bind_ok (h w)]; rfl
  · rw [h2, bind_ok (h w)]; rfl
theorem equal_run {t : TypeId} {d : TypeDesc} {a b : Value} {r : Bool} {w : World} (hd : P.underlying t = some d)
    (h : ((match d, a, b with
      | .bool, .bool a, .bool b => some (a == b)
      | .pointer _, .pointer none, .pointer none => some true
      | .pointer _, .pointer none, .pointer (some _) => some false
      | .pointer _, .pointer (some _), .pointer none => some false
      | .slice _, .slice none _ _, .slice none _ _ => some true
      | .slice _, .slice none _ _, .slice (some _) _ _ => some false
      | .slice _, .slice (some _) _ _, .slice none _ _ => some false
      | .map _ _, .map none, .map none => some true
      | .map _ _, .map none, .map (some _) => some false
      | .map _ _, .map (some _), .map none => some false
      | .func _ _ _, .nilFunc, .nilFunc => some true
      | .func _ _ _, .nilFunc, .func _ _ _ | .func _ _ _, .func _ _ _, .nilFunc => some false
      | .interface _, .nilIface, .nilIface => some true
      | .interface _, .nilIface, .iface _ _ | .interface _, .iface _ _, .nilIface => some false
      | _, _, _ => none) : Option Bool) = some r) : (Op.equal t a b).run P w = .ok r w := by
  show (Op.equalIn (9999 + 1) t a b).run P w = _
  unfold Op.equalIn
  rw [bind_ok (run_underlying hd w)]
  split at h <;> cases h <;> rfl
theorem eqBool_ok {t : TypeId} (ht : P.underlying t = some .bool) (x y : Operand) : EqOk P t x y eqBool := by
  intro E μ ρ a u u' r _ _ ha hb h
  unfold eqBool at h
  split at h
  · cases h
    generalize a.eval x = vx at ha ⊢
    generalize a.eval y = vy at hb ⊢
    cases ha; cases hb
    refine ⟨fun op w => eqGuard_plain _ _ _ _ (by simp) (by simp [one]) w, equal_runs (fun w => equal_run ht ?_) rfl rfl⟩
    rw [boolEq_eq]
  · cases h
theorem eqPtr_ok {t e : TypeId} (ht : P.underlying t = some (.pointer e)) (x y : Operand) : EqOk P t x y eqPtr := by
  intro E μ ρ a u u' r _ _ ha hb h
  unfold eqPtr at h
  generalize a.eval x = vx at ha ⊢
  generalize a.eval y = vy at hb ⊢
  split at h <;> cases h <;> cases ha <;> cases hb <;>
    exact ⟨fun op w => eqGuard_plain _ _ _ _ (by simp) (by simp [one]) w, equal_runs (fun w => equal_run ht rfl) rfl rfl⟩
theorem eqSlc_ok {t e : TypeId} (ht : P.underlying t = some (.slice e)) (x y : Operand) : EqOk P t x y eqSlc := by
  intro E μ ρ a u u' r _ _ ha hb h
  unfold eqSlc at h
  generalize a.eval x = vx at ha ⊢
  generalize a.eval y = vy at hb ⊢
  split at h <;> cases h <;> cases ha <;> cases hb <;>
    exact ⟨fun op w => eqGuard_plain _ _ _ _ (by simp) (by simp [one]) w, equal_runs (fun w => equal_run ht rfl) rfl rfl⟩
theorem eqMap_ok {t k e : TypeId} (ht : P.underlying t = some (.map k e)) (x y : Operand) : EqOk P t x y eqMap := by
  intro E μ ρ a u u' r _ _ ha hb h
  unfold eqMap at h
  generalize a.eval x = vx at ha ⊢
  generalize a.eval y = vy at hb ⊢
  split at h <;> cases h <;> cases ha <;> cases hb <;>
    exact ⟨fun op w => eqGuard_plain _ _ _ _ (by simp) (by simp [one]) w, equal_runs (fun w => equal_run ht rfl) rfl rfl⟩
theorem eqFun_ok {t : TypeId} {ps rs : Array TypeId} {v : Bool} (ht : P.underlying t = some (.func ps rs v)) (x y : Operand) : EqOk P t x y eqFun := by
  intro E μ ρ a u u' r _ _ ha hb h
  unfold eqFun at h
  generalize a.eval x = vx at ha ⊢
  generalize a.eval y = vy at hb ⊢
  split at h <;> cases h <;> cases ha <;> cases hb <;>
    exact ⟨fun op w => eqGuard_plain _ _ _ _ (by simp) (by simp [one]) w, equal_runs (fun w => equal_run ht rfl) rfl rfl⟩
theorem eqGuard_nils (op : BinOp) (t : TypeId) {x y : Operand} (hc : isNilConst x = true ∨ isNilConst y = true) (w : World) :
    (eqGuard op t x y .nilIface .nilIface).run P w = .ok () w := by
  have hx : (∃ v, x = .const v) ∨ (∃ v, y = .const v) := by
    rcases hc with h | h
    · unfold isNilConst at h
      split at h
      · exact .inl ⟨_, rfl⟩
      · cases h
    · unfold isNilConst at h
      split at h
      · exact .inr ⟨_, rfl⟩
      · cases h
  clear hc
  rcases hx with ⟨v, rfl⟩ | ⟨v, rfl⟩
  · cases op <;> rfl
  · cases op <;> first | rfl | (cases x <;> rfl)
theorem eqIfc_ok {t : TypeId} {ms : Array (String × TypeId)} (ht : P.underlying t = some (.interface ms)) {x y : Operand} (hc : isNilConst x = true ∨ isNilConst y = true) : EqOk P t x y eqIfc := by
  intro E μ ρ a u u' r _ _ ha hb h
  unfold eqIfc at h
  generalize a.eval x = vx at ha ⊢
  generalize a.eval y = vy at hb ⊢
  split at h <;> cases h <;> cases ha <;> cases hb
  · exact ⟨fun op w => eqGuard_nils op t hc w, equal_runs (fun w => equal_run ht rfl) rfl rfl⟩
  · exact ⟨fun op w => eqGuard_plain _ _ _ _ (by simp) (by simp [one]) w, equal_runs (fun w => equal_run ht rfl) rfl rfl⟩
  · exact ⟨fun op w => eqGuard_plain _ _ _ _ (by simp) (by simp [one]) w, equal_runs (fun w => equal_run ht rfl) rfl rfl⟩
theorem cEq_ok {t : TypeId} {x y : Operand} {f : AV → AV → Option Bool} (h : cEq P t x y = some f) : EqOk P t x y f := by
  unfold cEq at h
  split at h
  · cases h; exact eqInt_ok t x y
  · cases h; exact eqStr_ok t x y
  · rename_i ht; cases h; exact eqBool_ok ht x y
  · rename_i ht; cases h; exact eqPtr_ok ht x y
  · rename_i ht; cases h; exact eqSlc_ok ht x y
  · rename_i ht; cases h; exact eqMap_ok ht x y
  · rename_i ht; cases h; exact eqFun_ok ht x y
  · rename_i ht
    split at h
    · rename_i hx; cases h; exact eqIfc_ok ht (.inl hx)
    · split at h
      · rename_i hy; cases h; exact eqIfc_ok ht (.inr hy)
      · cases h
  · cases h

/-- what a compiled operation promises -/
theorem not_ok (o : Oper) (t : TypeId) (x : Operand) (ho : o.op = .unOp .not t x) : PureOk P o (notf (cOpd x)) := by
  intro E μ ρ a v hr h
  have hx := hr x (by rw [ho]; simp [Op.operands])
  unfold notf at h
  split at h
  · rename_i b e
    cases h
    have hv := hx _ e
    generalize hxv : a.eval x = xv at hv
    cases hv
    exact ⟨_, .bool _, fun w => by simp only [execOp, ho, hxv]; cases b <;> rfl⟩
  · cases h
theorem neg_ok (o : Oper) (t : TypeId) (x : Operand) (ho : o.op = .unOp .neg t x) : PureOk P o (negf (cOpd x)) := by
  intro E μ ρ a v hr h
  have hx := hr x (by rw [ho]; simp [Op.operands])
  unfold negf at h
  split at h
  · rename_i k n e
    cases h
    have hv := hx _ e
    generalize hxv : a.eval x = xv at hv
    cases hv
    exact ⟨_, .int _ _, fun w => by simp only [execOp, ho, hxv]; rw [wrapF_eq]; rfl⟩
  · cases h
theorem toInt_ok (o : Oper) (s d : TypeId) {j k : IntKind} (x : Operand) (ho : o.op = .convert s d x) (hs : P.underlying s = some (.int j)) (hd : P.underlying d = some (.int k)) :
    PureOk P o (toIntf k (cOpd x)) := by
  intro E μ ρ a v hr h
  have hx := hr x (by rw [ho]; simp [Op.operands])
  unfold toIntf at h
  split at h
  · rename_i i n e
    cases h
    have hv := hx _ e
    generalize hxv : a.eval x = xv at hv
    cases hv
    refine ⟨_, .int _ _, fun w => ?_⟩
    simp only [execOp, ho, hxv]
    refine run_value ?_
    unfold convert
    rw [bind_ok (run_underlying hs w), bind_ok (run_underlying hd w), wrapF_eq]
    rfl
  · cases h
theorem same_ok (o : Oper) (s d : TypeId) (x : Operand) (ho : o.op = .convert s d x) (hs : P.underlying s = some .string) (hd : P.underlying d = some .string) :
    PureOk P o (samef (cOpd x)) := by
  intro E μ ρ a v hr h
  have hx := hr x (by rw [ho]; simp [Op.operands])
  unfold samef at h
  split at h
  · rename_i l e
    cases h
    have hv := hx _ e
    generalize hxv : a.eval x = xv at hv
    refine ⟨xv, hv, fun w => ?_⟩
    cases hv
    simp only [execOp, ho, hxv]
    refine run_value ?_
    unfold convert
    rw [bind_ok (run_underlying hs w), bind_ok (run_underlying hd w)]
    rfl
  · cases h
theorem intToStr_ok (o : Oper) (s d : TypeId) {j : IntKind} (x : Operand) (ho : o.op = .convert s d x) (hs : P.underlying s = some (.int j)) (hd : P.underlying d = some .string) :
    PureOk P o (intToStrf (cOpd x)) := by
  intro E μ ρ a v hr h
  have hx := hr x (by rw [ho]; simp [Op.operands])
  unfold intToStrf at h
  split at h
  · rename_i k n e
    cases h
    have hv := hx _ e
    generalize hxv : a.eval x = xv at hv
    cases hv
    refine ⟨_, .str _, fun w => ?_⟩
    simp only [execOp, ho, hxv]
    refine run_value ?_
    unfold convert
    rw [bind_ok (run_underlying hs w), bind_ok (run_underlying hd w)]
    rfl
  · cases h
theorem mkIface_ok (o : Oper) (t : TypeId) {d : TypeDesc} (x : Operand) (ho : o.op = .makeInterface t x) (ht : P.underlying t = some d) (hd : ∀ ms, d ≠ .interface ms) :
    PureOk P o (mkIfacef t (cOpd x)) := by
  intro E μ ρ a v hr h
  have hx := hr x (by rw [ho]; simp [Op.operands])
  unfold mkIfacef at h
  split at h
  · rename_i u e
    cases h
    refine ⟨_, .iface (hx _ e), fun w => ?_⟩
    simp only [execOp, ho]
    refine run_value ?_
    unfold Instr.makeInterface
    rw [bind_ok (run_underlying ht w)]
    cases d <;> first | rfl | exact absurd rfl (hd _)
  · cases h
theorem mkFunc_ok (o : Oper) (f : FuncId) (xs ys : Array Operand) (ho : o.op = .makeFunc (.func f) xs ys) : PureOk P o (mkFuncf f (cArgs xs.toList) (cArgs ys.toList)) := by
  intro E μ ρ a v hr h
  unfold mkFuncf at h
  split at h
  · rename_i as e
    split at h
    · rename_i cs e'
      cases h
      have h1 := evs_ok (E := E) (μ := μ) (a := a) xs.toList as (fun x hx => hr x (by rw [ho]; simp [Op.operands]; exact .inl (by simpa using hx))) e
      have h2 := evs_ok (E := E) (μ := μ) (a := a) ys.toList cs (fun x hx => hr x (by rw [ho]; simp [Op.operands]; exact .inr (by simpa using hx))) e'
      refine ⟨_, .func h1 h2, fun w => ?_⟩
      simp only [execOp, ho]
      refine run_value ?_
      rw [show (xs.toList.map a.eval).toArray = xs.map a.eval by rw [← Array.toList_map], show (ys.toList.map a.eval).toArray = ys.map a.eval by rw [← Array.toList_map]]
      rfl
    · cases h
  · cases h
theorem extract_ok (o : Oper) (x : Operand) (i : Nat) (ho : o.op = .extract x i) : PureOk P o (extractf (cOpd x) i) := by
  intro E μ ρ a v hr h
  have hx := hr x (by rw [ho]; simp [Op.operands])
  unfold extractf at h
  split at h
  · rename_i vs e
    have hv := hx _ e
    generalize hxv : a.eval x = xv at hv
    cases hv with | tuple hl => ?_
    obtain ⟨v', h1, h2⟩ := hl.nth h
    refine ⟨v', h2, fun w => ?_⟩
    simp only [execOp, ho, hxv]
    refine run_value ?_
    simp [Instr.extract, h1]
  · cases h
end Go.Ax
