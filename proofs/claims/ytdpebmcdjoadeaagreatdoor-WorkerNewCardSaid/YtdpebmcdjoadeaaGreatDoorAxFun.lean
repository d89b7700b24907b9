/- Helper text: functions and calls: what the executor returns is what the model's call comes to. -/
import Derived.Test.YtdpebmcdjoadeaaGreatDoorAxCode
import Derived.Laws.Sem
namespace Go.Ax
variable {E : Env} {N : Nat} {μ μ' : Mu} {P : Program}

/-- one result, as the model reads it -/
def readRes (tmps : Array Value) : ResultVar → Sem Value
  | .tmp t => pure (tmps.getD t undef)
  | .cell a t => do loadVar t (← asAddr (tmps.getD a undef))
theorem results_eq (fn : Func) (tmps : Array Value) : results fn tmps = (do let vs ← fn.results.mapM (readRes tmps); pure (if h : vs.size = 1 then vs[0] else .tuple vs)) := rfl

theorem result1_ok {n : Nat} {ρ : Tmps} {h : H} {a : Act} {w : World} (s : St E N μ n ρ h a w) (x : ResultVar) {v : AV} (hv : result1 ρ h (cRes P x) = some v) :
    ∃ v', VRel E μ v v' ∧ (readRes a.tmps x).run P w = .ok v' w := by
  cases x with
  | tmp t =>
    unfold cRes at hv
    split at hv
    · rename_i t' hlt heq
      cases heq
      split at hv
      · rename_i hlt
        have hlt := blt_t hlt
        simp only [result1] at hv
        rw [T.getP_way _ _ hlt] at hv
        obtain ⟨v', h1, h2⟩ := s.tmps.rel _ _ hv
        exact ⟨v', h2, by simp [readRes, Array.getD_eq_getD_getElem?, h1]⟩
      · cases hv
    · rename_i heq; cases heq
  | cell c t =>
    unfold cRes at hv
    split at hv
    · rename_i heq; cases heq
    · rename_i c' t' heq
      cases heq
      split at hv
      · rename_i hlt
        have hlt := blt_t hlt
        split at hv
        · rename_i ha
          simp only [result1] at hv
          rw [T.getP_way _ _ hlt] at hv
          split at hv
          · rename_i b o hp
            obtain ⟨p', h1, h2⟩ := s.tmps.rel _ _ hp
            cases h2 with | ptr hb hs => ?_
            obtain ⟨v', g1, g2⟩ := getCell_ok s.rel hb hs hv
            exact ⟨v', g2, by simp [readRes, Array.getD_eq_getD_getElem?, h1, asAddr, loadVar, run_isAgg ha, load, Sem.run, g1]⟩
          · cases hv
        · rename_i ha
          split at hv
          · rename_i k hk
            simp only [result1] at hv
            rw [T.getP_way _ _ hlt] at hv
            split at hv
            · rename_i b o hp
              split at hv
              · rename_i vs hvs
                cases hv
                obtain ⟨p', h1, h2⟩ := s.tmps.rel _ _ hp
                cases h2 with | ptr hb hs => ?_
                obtain ⟨vs', g1, g2, _, _⟩ := getCells_ok (P := P) s.rel hb hs hvs
                exact ⟨_, .agg g2, by simp [readRes, Array.getD_eq_getD_getElem?, h1, asAddr, loadVar, run_isAgg ha, run_sizeOf hk, g1 w rfl]⟩
              · cases hv
            · cases hv
          · cases hv
        · cases hv
      · cases hv

theorem resultsL_ok {n : Nat} {ρ : Tmps} {h : H} {a : Act} {w : World} (s : St E N μ n ρ h a w) : ∀ (xs : List ResultVar) (vs : List AV), resultsL ρ h (xs.map (cRes P)) = some vs →
    ∃ vs', LRel E μ vs vs' ∧ (xs.mapM (readRes a.tmps)).run P w = .ok vs' w
  | [], vs, e => by
    cases e
    exact ⟨[], .nil, by simp⟩
  | x :: xs, vs, e => by
    have e' : (match result1 ρ h (cRes P x) with
      | none => none
      | some v => match resultsL ρ h (xs.map (cRes P)) with
        | none => none
        | some vs => some (v :: vs)) = some vs := e
    split at e'
    · cases e'
    · rename_i v hv
      split at e'
      · cases e'
      · rename_i us hus
        cases e'
        obtain ⟨v', h1, h2⟩ := result1_ok s x hv
        obtain ⟨vs', g1, g2⟩ := resultsL_ok s xs us hus
        refine ⟨v' :: vs', .cons h1 g1, ?_⟩
        rw [List.mapM_cons, bind_ok h2, bind_ok g2]
        rfl

theorem resultA_ok {n : Nat} {ρ : Tmps} {h h' : H} {a : Act} {w : World} (s : St E N μ n ρ h a w) (fn : Func) {v : AV} (hv : resultA (fn.results.toList.map (cRes P)) ρ h = .ok v h') :
    h' = h ∧ ∃ v', VRel E μ v v' ∧ (results fn a.tmps).run P w = .ok v' w := by
  unfold resultA at hv
  split at hv
  · rename_i u hu
    cases hv
    obtain ⟨vs', h1, h2⟩ := resultsL_ok s _ _ hu
    cases h1 with | cons g1 g2 => ?_
    cases g2
    refine ⟨rfl, _, g1, ?_⟩
    rw [results_eq, Array.mapM_eq_mapM_toList]
    simp only [map_eq_pure_bind, bind_assoc, bind_run, h2, pure_run]
    rfl
  · rename_i vs hne hu
    cases hv
    obtain ⟨vs', h1, h2⟩ := resultsL_ok s _ _ hu
    refine ⟨rfl, .tuple vs'.toArray, .tuple h1, ?_⟩
    rw [results_eq, Array.mapM_eq_mapM_toList]
    have hl : vs'.toArray.size ≠ 1 := by
      rw [List.size_toArray, h1.length]
      intro e
      match vs, e with
      | [x], _ => exact hne x rfl
    simp only [map_eq_pure_bind, bind_assoc, bind_run, h2, pure_run]
    rw [dif_neg hl]
  · cases hv
theorem resultA_next {rs : List ARes} {ρ : Tmps} {h h' : H} {v : AV} (hv : resultA rs ρ h = .ok v h') : h' = h := by
  unfold resultA at hv
  split at hv
  · cases hv; rfl
  · cases hv; rfl
  · cases hv

/-! the first frame -/
theorem T.getF_more {α : Type} : ∀ (f k : Nat) (t : T α) (i : Nat) (v : α), T.getF f t i = some v → T.getF (f + k) t i = some v := by
  intro f
  induction f with
  | zero => intro k t i v h; cases h
  | succ f ih =>
    intro k t i v h
    rw [Nat.succ_add]
    cases i with
    | zero => rw [T.getF_zero] at h ⊢; exact h
    | succ i =>
      by_cases hi : i % 2 = 0
      · rw [T.getF_even _ _ _ hi] at h ⊢; exact ih _ _ _ _ h
      · rw [T.getF_odd _ _ _ hi] at h ⊢; exact ih _ _ _ _ h
theorem enter_rel {args : List AV} {args' : Array Value} (h : LRel E μ args args'.toList) (n : Nat) :
    TRel E μ n (T.ofList args 0 .nil) (args' ++ Array.replicate (n - args'.size) undef) := by
  have hl := h.length
  rw [Array.length_toList] at hl
  refine ⟨by simp; omega, fun t v hv => ?_⟩
  have hv := T.getF_more 12 52 _ _ _ hv
  rcases ofList_get _ _ _ _ _ hv with ⟨_, h2, h3⟩ | ⟨_, h2⟩
  · obtain ⟨v', g1, g2⟩ := h.get? h3
    refine ⟨v', ?_, g2⟩
    rw [Array.getElem?_append_left (by omega)]
    simpa using g1
  · rw [T.get_nil] at h2; cases h2

/-! calls -/
structure CfgOk (P : Program) (G : Cfg) : Prop where
  fn : ∀ f af, G.fn f = some af → ∃ fn c, P.funcs[f]? = some fn ∧ fn.body = some c ∧ (fn.name == "runtime.NumGoroutine") = false ∧ af = cFunc P fn
  prim : ∀ f p, G.prim f = some p → ∀ args h v h', p args h = .ok v h' → h.next ≤ h'.next ∧ HasBody P f ∧
    ∀ (E : Env) (N : Nat) (μ : Mu) (args' : Array Value) (w : World), LRel E μ args args'.toList → Rel E N μ h w → N ≤ w.heap.size → Free μ h.next h'.next →
      Calls P f args' w fun e w' => ∃ v' μ', e = .returned v' ∧ VRel E μ' v v' ∧ Rel E N μ' h' w' ∧ Ext μ h w μ' h' w'

theorem runF_ok {f : FuncId} {fn : Func} {c : Code} (hf : P.funcs[f]? = some fn) (hb : fn.body = some c) (hc : COk P fn.ntmps c (cCode P fn.ntmps c)) {cl : CallFn} (hcl : ClOk P cl)
    {args : List AV} {h h' : H} {v : AV} (hr : runF (cFunc P fn) cl args h = .ok v h') :
    h.next ≤ h'.next ∧ ∀ (E : Env) (N : Nat) (μ : Mu) (args' : Array Value) (w : World), LRel E μ args args'.toList → Rel E N μ h w → N ≤ w.heap.size → Free μ h.next h'.next →
      Calls P f args' w fun e w' => ∃ v' μ', e = .returned v' ∧ VRel E μ' v v' ∧ Rel E N μ' h' w' ∧ Ext μ h w μ' h' w' := by
  unfold runF cFunc at hr
  simp only [hb] at hr
  have main : ∀ e ρ1 h1, out ((cCode P fn.ntmps c).f cl (T.ofList args 0 .nil) h) = some (e, ρ1, h1) → (e = .normal ∨ e = .ret) → resultA (fn.results.toList.map (cRes P)) ρ1 h1 = .ok v h' →
      h.next ≤ h'.next ∧ ∀ (E : Env) (N : Nat) (μ : Mu) (args' : Array Value) (w : World), LRel E μ args args'.toList → Rel E N μ h w → N ≤ w.heap.size → Free μ h.next h'.next →
      Calls P f args' w fun e w' => ∃ v' μ', e = .returned v' ∧ VRel E μ' v v' ∧ Rel E N μ' h' w' ∧ Ext μ h w μ' h' w' := by
    intro e ρ1 h1 ho he hres
    obtain ⟨g1, g2⟩ := hc cl hcl _ _ _ _ _ ho
    have hh := resultA_next hres
    subst hh
    refine ⟨g1, fun E N μ args' w ha r hN hfree => calls_of_wp hf hb ?_⟩
    refine g2 E N μ _ w _ ⟨enter_rel ha _, rfl, r, hN⟩ hfree fun a' w' μ' s ex => ?_
    obtain ⟨_, v', k1, k2⟩ := resultA_ok s fn hres
    rcases he with rfl | rfl
    · exact ⟨s.defers, v', k2, v', μ', rfl, k1, s.rel, ex⟩
    · exact ⟨s.defers, v', k2, v', μ', rfl, k1, s.rel, ex⟩
  cases hk : (cCode P fn.ntmps c).f cl (T.ofList args 0 .nil) h with
  | normal ρ1 h1 => rw [hk] at hr; exact main _ _ _ (by rw [hk]; rfl) (.inl rfl) hr
  | ret ρ1 h1 => rw [hk] at hr; exact main _ _ _ (by rw [hk]; rfl) (.inr rfl) hr
  | exit id ρ1 h1 => rw [hk] at hr; cases hr
  | err m => rw [hk] at hr; cases hr

theorem call_ok {G : Cfg} (hG : CfgOk P G) (hdraw : ∀ n id ops, COk P n (.region id ops true) (cDraw P n ops)) : ∀ n, ClOk P (call G n)
  | 0 => by intro f args h v h' hr; cases hr
  | n + 1 => by
    intro f args h v h' hr
    have hstep : call G (n + 1) f args h = match G.prim f with
      | some p => p args h
      | none => match G.fn f with
        | none => .err "no function"
        | some af => runF af (call G n) args h := rfl
    rw [hstep] at hr
    split at hr
    · rename_i p hp
      exact hG.prim f p hp args h v h' hr
    split at hr
    · cases hr
    · rename_i af haf
      obtain ⟨fn, c, h1, h2, h3, rfl⟩ := hG.fn f af haf
      obtain ⟨g1, g2⟩ := runF_ok h1 h2 (cCode_ok fn.ntmps (hdraw fn.ntmps) c) (call_ok hG hdraw n) hr
      exact ⟨g1, ⟨fn, c, h1, h2, h3⟩, g2⟩
end Go.Ax
