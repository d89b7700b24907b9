/- Helper text: lengths, min and max; the operations that read memory; the operations that make a block. -/
import Derived.Test.YtdpebmcdjoadeaaGreatDoorAxOpD
namespace Go.Ax
variable {E : Env} {N : Nat} {μ μ' : Mu} {P : Program}

theorem builtin_value {o : Oper} {a : Act} {c : Call} {b : Builtin} (ho : o.op = .call c) (hc : c.callee = .builtin b) {s : Sem Value} {w w' : World} {v : Value}
    (hb : builtin b c.argTypes o.type (c.args.map fun | .const _ => true | _ => false) (c.args.map a.eval) = (do pure (Next.value (← s)))) (h : s.run P w = .ok v w') :
    (execOp a.eval o).run P w = .ok (.value v) w' := by
  simp only [execOp, ho]
  have : (resolve a.eval c o.type).run P w = .ok { target := .builtin b c.argTypes o.type (c.args.map fun | .const _ => true | _ => false), args := c.args.map a.eval } w := by
    unfold resolve
    simp only [hc]
    rfl
  rw [bind_ok this]
  show (builtin b c.argTypes o.type (c.args.map fun | .const _ => true | _ => false) (c.args.map a.eval)).run P w = _
  rw [hb]
  exact run_value h
theorem call_mem {o : Oper} {c : Call} {x : Operand} (ho : o.op = .call c) (hx : x ∈ c.args.toList) : x ∈ o.op.operands.toList := by
  rw [ho]
  simp only [Op.operands, Call.operands, Array.toList_append]
  exact List.mem_append_right _ hx
theorem cArgs_map : ∀ (xs : List Operand), cArgs xs = xs.map cOpd
  | [] => rfl
  | x :: xs => by rw [cArgs, cArgs_map xs]; rfl
theorem args_one {c : Call} {x : Opd} (h : cArgs c.args.toList = [x]) : ∃ y, c.args = #[y] ∧ x = cOpd y := by
  rw [cArgs_map] at h
  cases hl : c.args.toList with
  | nil => rw [hl] at h; cases h
  | cons y ys =>
    rw [hl] at h
    cases ys with
    | nil =>
      simp at h
      exact ⟨y, by apply Array.toList_inj.1; rw [hl], h.symm⟩
    | cons z zs => simp at h
theorem args_two {c : Call} {x x' : Opd} (h : cArgs c.args.toList = [x, x']) : ∃ y y', c.args = #[y, y'] ∧ x = cOpd y ∧ x' = cOpd y' := by
  rw [cArgs_map] at h
  cases hl : c.args.toList with
  | nil => rw [hl] at h; cases h
  | cons y ys =>
    rw [hl] at h
    cases ys with
    | nil => simp at h
    | cons z zs =>
      cases zs with
      | nil =>
        simp at h
        exact ⟨y, z, by apply Array.toList_inj.1; rw [hl], h.1.symm, h.2.symm⟩
      | cons _ _ => simp at h


theorem lenStr_ok (o : Oper) (c : Call) (x : Operand) {t : TypeId} (ho : o.op = .call c) (hc : c.callee = .builtin .len) (ha : c.args = #[x]) (ht0 : c.argTypes[0]? = some t)
    (ht : P.underlying t = some .string) : PureOk P o (lenStrf (cOpd x)) := by
  intro E μ ρ a v hr h
  have hx := hr x (call_mem ho (by rw [ha]; simp))
  unfold lenStrf at h
  split at h
  · rename_i l e
    cases h
    have hv := hx _ e
    generalize hxv : a.eval x = xv at hv
    cases hv with | str s => ?_
    refine ⟨_, .int _ _, fun w => builtin_value ho hc (s := Builtin.len_ c.argTypes o.type #[a.eval x]) (by rw [ha]; simp [builtin]) ?_⟩
    rw [hxv]
    unfold Builtin.len_
    simp [ht0, run_underlying ht, goInt]
  · cases h
theorem lenSlc_ok (o : Oper) (c : Call) (x : Operand) {t e : TypeId} (ho : o.op = .call c) (hc : c.callee = .builtin .len) (ha : c.args = #[x]) (ht0 : c.argTypes[0]? = some t)
    (ht : P.underlying t = some (.slice e)) : PureOk P o (lenSlcf (cOpd x)) := by
  intro E μ ρ a v hr h
  have hx := hr x (call_mem ho (by rw [ha]; simp))
  unfold lenSlcf at h
  split at h
  all_goals first
    | cases h; done
    | (rename_i e
       cases h
       have hv := hx _ e
       generalize hxv : a.eval x = xv at hv
       cases hv
       refine ⟨_, .int _ _, fun w => builtin_value ho hc (s := Builtin.len_ c.argTypes o.type #[a.eval x]) (by rw [ha]; simp [builtin]) ?_⟩
       rw [hxv]
       unfold Builtin.len_
       simp [ht0, run_underlying ht, goInt])

/-- min, max over integers -/
theorem fold_ok {f : AV → AV → Option AV} {g : Value → Value → Sem Value}
    (hf : ∀ (E : Env) (μ : Mu) (u u' v : AV) (a b : Value), VRel E μ u a → VRel E μ u' b → f u u' = some v → ∃ v', VRel E μ v v' ∧ ∀ w, (g a b).run P w = .ok v' w) :
    ∀ {us : List AV} {vs : List Value} {u v : AV} {a : Value}, LRel E μ us vs → VRel E μ u a → foldO f u us = some v → ∃ v', VRel E μ v v' ∧ ∀ w, (vs.foldlM g a).run P w = .ok v' w
  | _, _, u, v, a, .nil, ha, h => by
    simp only [foldO] at h; cases h
    exact ⟨a, ha, fun w => rfl⟩
  | _, _, u, v, a, .cons h1 hs, ha, h => by
    simp only [foldO] at h
    split at h
    · rename_i b hb
      obtain ⟨b', g1, g2⟩ := hf E μ _ _ _ _ _ ha h1 hb
      obtain ⟨v', g3, g4⟩ := fold_ok hf hs g1 h
      refine ⟨v', g3, fun w => ?_⟩
      rw [List.foldlM_cons, bind_ok (g2 w)]
      exact g4 w
    · cases h
theorem max2_int (k : IntKind) (a b : Int) (w : World) : (Builtin.max2 (.int k a) (.int k b)).run P w = .ok (.int k (match decide (a < b) with | true => b | false => a)) w := by
  show Result.ok (Value.int k (if a < b then b else a)) w = _
  by_cases h : a < b
  · rw [if_pos h, decide_eq_true h]
  · rw [if_neg h, decide_eq_false h]
theorem max2_run (E : Env) (μ : Mu) (u u' v : AV) (a b : Value) (ha : VRel E μ u a) (hb : VRel E μ u' b) (h : max2 u u' = some v) :
    ∃ v', VRel E μ v v' ∧ ∀ w, (Builtin.max2 a b).run P w = .ok v' w := by
  unfold max2 at h
  split at h
  · split at h
    · rename_i hk
      have := kindEq_t hk; subst this
      cases h; cases ha; cases hb
      refine ⟨_, .int _ _, fun w => ?_⟩
      rw [ltB_eq]
      exact max2_int _ _ _ w
    · cases h
  · cases h
theorem min2_int (k : IntKind) (a b : Int) (w : World) : (Builtin.min2 (.int k a) (.int k b)).run P w = .ok (.int k (match decide (b < a) with | true => b | false => a)) w := by
  show Result.ok (Value.int k (if b < a then b else a)) w = _
  by_cases h : b < a
  · rw [if_pos h, decide_eq_true h]
  · rw [if_neg h, decide_eq_false h]
theorem min2_run (E : Env) (μ : Mu) (u u' v : AV) (a b : Value) (ha : VRel E μ u a) (hb : VRel E μ u' b) (h : min2 u u' = some v) :
    ∃ v', VRel E μ v v' ∧ ∀ w, (Builtin.min2 a b).run P w = .ok v' w := by
  unfold min2 at h
  split at h
  · split at h
    · rename_i hk
      have := kindEq_t hk; subst this
      cases h; cases ha; cases hb
      refine ⟨_, .int _ _, fun w => ?_⟩
      rw [ltB_eq]
      exact min2_int _ _ _ w
    · cases h
  · cases h
theorem foldB_ok (o : Oper) (c : Call) (b : Builtin) {f : AV → AV → Option AV} {g : Value → Value → Sem Value} (ho : o.op = .call c) (hc : c.callee = .builtin b)
    (hf : ∀ (E : Env) (μ : Mu) (u u' v : AV) (a b : Value), VRel E μ u a → VRel E μ u' b → f u u' = some v → ∃ v', VRel E μ v v' ∧ ∀ w, (g a b).run P w = .ok v' w)
    (hb : ∀ (ts : Array TypeId) (t : TypeId) (cs : Array Bool) (x : Value) (xs : List Value), builtin b ts t cs (x :: xs).toArray = (do pure (Next.value (← xs.foldlM g x)))) :
    PureOk P o (foldf f (cArgs c.args.toList)) := by
  intro E μ ρ a v hr h
  unfold foldf at h
  split at h
  · rename_i u us hus
    have hl := evs_ok (E := E) (μ := μ) (a := a) c.args.toList _ (fun x hx => hr x (call_mem ho hx)) hus
    generalize hvs : c.args.toList.map a.eval = vs at hl
    cases hl with | cons h1 hs => ?_
    rename_i v1 vs1
    obtain ⟨v', g1, g2⟩ := fold_ok hf hs h1 h
    refine ⟨v', g1, fun w => builtin_value ho hc (s := vs1.foldlM g v1) ?_ (g2 w)⟩
    have : c.args.map a.eval = (v1 :: vs1).toArray := by
      apply Array.toList_inj.1
      rw [Array.toList_map, hvs]
    rw [this]
    exact hb ..
  · cases h

/-! reads -/
def ReadOk (P : Program) (o : Oper) (f : Tmps → H → Option AV) : Prop :=
  ∀ (E : Env) (N : Nat) (μ : Mu) (ρ : Tmps) (a : Act) (h : H) (w : World) (v : AV), (∀ x ∈ o.op.operands.toList, Related E μ ρ a x) → Rel E N μ h w → f ρ h = some v →
    ∃ v', VRel E μ v v' ∧ (execOp a.eval o).run P w = .ok (.value v') w
theorem load1_ok (o : Oper) (t : TypeId) (x : Operand) (ho : o.op = .load t x) (ha : cIsAgg P t = some false) : ReadOk P o (load1f (cOpd x)) := by
  intro E N μ ρ a h w v hr r hf
  have hx := hr x (by rw [ho]; simp [Op.operands])
  unfold load1f at hf
  split at hf
  · rename_i b off e
    have hv := hx _ e
    generalize hxv : a.eval x = xv at hv
    cases hv with | ptr hb hs => ?_
    obtain ⟨v', h1, h2⟩ := getCell_ok r hb hs hf
    refine ⟨v', h2, ?_⟩
    simp only [execOp, ho, hxv]
    refine run_value ?_
    simp [Instr.loadAt, Instr.sureAddr, loadVar, run_isAgg ha, load, Sem.run, h1]
  · cases hf
theorem loadN_ok (o : Oper) (t : TypeId) (x : Operand) {n : Nat} (ho : o.op = .load t x) (ha : cIsAgg P t = some true) (hn : cSize P t = some n) : ReadOk P o (loadNf n (cOpd x)) := by
  intro E N μ ρ a h w v hr r hf
  have hx := hr x (by rw [ho]; simp [Op.operands])
  unfold loadNf at hf
  split at hf
  · rename_i b off e
    split at hf
    · rename_i vs hvs
      cases hf
      have hv := hx _ e
      generalize hxv : a.eval x = xv at hv
      cases hv with | ptr hb hs => ?_
      obtain ⟨vs', h1, h2, _, _⟩ := getCells_ok (P := P) r hb hs hvs
      refine ⟨_, .agg h2, ?_⟩
      simp only [execOp, ho, hxv]
      refine run_value ?_
      simp [Instr.loadAt, Instr.sureAddr, loadVar, run_isAgg ha, run_sizeOf hn, h1 w rfl]
    · cases hf
  · cases hf

theorem getMap_ok {h : H} {w : World} (r : Rel E N μ h w) {b c : Nat} {x : Loc} {es : List (AV × AV × Nat)} (hb : μ b = some x) (hg : getMap h b = some (es, c)) :
    ∃ ents, w.heap[x.B]? = some (.map ents c) ∧ ERel E μ es ents.toList := by
  unfold getMap at hg
  split at hg
  · rename_i es' c' hk
    cases hg
    obtain ⟨o, ho, ents, rfl, h1⟩ := r.blk b x _ hb hk
    exact ⟨ents, ho, h1⟩
  · cases hg
theorem run_getObj {w : World} {B : Nat} {ents : Array MapEntry} {c : Nat} (h : w.heap[B]? = some (.map ents c)) : (Go.getObj B).run P w = .ok (.map ents c) w := by
  simp [Go.getObj, Sem.run, h]
theorem lenMap_ok (o : Oper) (c : Call) (x : Operand) {t k e : TypeId} (ho : o.op = .call c) (hc : c.callee = .builtin .len) (ha : c.args = #[x]) (ht0 : c.argTypes[0]? = some t)
    (ht : P.underlying t = some (.map k e)) : ReadOk P o (lenMapf (cOpd x)) := by
  intro E N μ ρ a h w v hr r hf
  have hx := hr x (call_mem ho (by rw [ha]; simp))
  unfold lenMapf at hf
  split at hf
  · rename_i e
    cases hf
    have hv := hx _ e
    generalize hxv : a.eval x = xv at hv
    cases hv
    refine ⟨_, .int _ _, builtin_value ho hc (s := Builtin.len_ c.argTypes o.type #[a.eval x]) (by rw [ha]; simp [builtin]) ?_⟩
    rw [hxv]
    unfold Builtin.len_
    simp [ht0, run_underlying ht, goInt]
  · rename_i b e
    split at hf
    · rename_i es cl hg
      cases hf
      have hv := hx _ e
      generalize hxv : a.eval x = xv at hv
      cases hv with | map hb => ?_
      obtain ⟨ents, h1, h2⟩ := getMap_ok r hb hg
      refine ⟨_, .int _ _, builtin_value ho hc (s := Builtin.len_ c.argTypes o.type #[a.eval x]) (by rw [ha]; simp [builtin]) ?_⟩
      rw [hxv]
      unfold Builtin.len_
      have := h2.length
      simp only [Array.length_toList] at this
      simp [ht0, run_underlying ht, goInt, run_getObj h1, this]
    · cases hf
  · cases hf
end Go.Ax
