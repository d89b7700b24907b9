/- Helper text: code, functions, calls. -/
import Derived.Test.YtdpebmcdjoadeaaGreatDoorAxSeq
import Derived.Scope
namespace Go.Ax
variable {E : Env} {N : Nat} {μ μ' : Mu} {P : Program}

theorem bad_cok (n : Nat) (c : Code) (m : String) : COk P n c (badF m) := by
  intro cl _ ρ h e ρ' h' ho
  cases ho
theorem skip_ok (n : Nat) : COk P n .skip skipF := by
  intro cl _ ρ h e ρ' h' ho
  cases ho
  exact ⟨Nat.le_refl _, fun E N μ a w Q s _ hQ => wp_skip (hQ _ _ _ s (Ext.refl _ _ _))⟩
theorem exit_ok (n id : Nat) : COk P n (.exit id) (exitF id) := by
  intro cl _ ρ h e ρ' h' ho
  cases ho
  exact ⟨Nat.le_refl _, fun E N μ a w Q s _ hQ => wp_exit (hQ _ _ _ s (Ext.refl _ _ _))⟩
theorem ret_ok (n : Nat) : COk P n .ret retF := by
  intro cl _ ρ h e ρ' h' ho
  cases ho
  exact ⟨Nat.le_refl _, fun E N μ a w Q s _ hQ => wp_ret (hQ _ _ _ s (Ext.refl _ _ _))⟩
theorem seq_ok {n : Nat} {x y : Code} {k l : Clo} (hx : COk P n x k) (hy : COk P n y l) : COk P n (.seq x y) (seqF k l) := by
  intro cl hcl ρ h e ρ' h' ho
  simp only [seqF] at ho
  cases hr : k.f cl ρ h with
  | normal ρ1 h1 =>
    rw [hr] at ho
    obtain ⟨g1, g2⟩ := hx cl hcl ρ h _ _ _ (by rw [hr]; rfl)
    obtain ⟨k1, k2⟩ := hy cl hcl ρ1 h1 _ _ _ ho
    refine ⟨by omega, fun E N μ a w Q s hfree hQ => wp_seq (g2 E N μ a w _ s (hfree.first k1) fun a' w' μ' s' ex => ?_)⟩
    exact k2 E N μ' a' w' Q s' (hfree.after ex) fun a2 w2 μ2 s2 ex2 => hQ _ _ _ s2 (ex.trans ex2)
  | exit id ρ1 h1 =>
    rw [hr] at ho; cases ho
    obtain ⟨g1, g2⟩ := hx cl hcl ρ h _ _ _ (by rw [hr]; rfl)
    exact ⟨g1, fun E N μ a w Q s hfree hQ => wp_seq (g2 E N μ a w _ s hfree hQ)⟩
  | ret ρ1 h1 =>
    rw [hr] at ho; cases ho
    obtain ⟨g1, g2⟩ := hx cl hcl ρ h _ _ _ (by rw [hr]; rfl)
    exact ⟨g1, fun E N μ a w Q s hfree hQ => wp_seq (g2 E N μ a w _ s hfree hQ)⟩
  | err m => rw [hr] at ho; cases ho
theorem cond_ok {n : Nat} {c : Operand} {x y : Code} {k l : Clo} (hx : COk P n x k) (hy : COk P n y l) : COk P n (.cond c x y) (condF (cOpd c) k l) := by
  intro cl hcl ρ h e ρ' h' ho
  simp only [condF] at ho
  split at ho
  · rename_i t ht
    have hc : ∀ {E : Env} {N : Nat} {μ : Mu} {a : Act} {w : World}, St E N μ n ρ h a w → a.eval c = .bool t := by
      intro E N μ a w s
      have := related_of s.tmps c _ ht
      generalize a.eval c = v at this
      cases this; rfl
    cases t with
    | true =>
      obtain ⟨g1, g2⟩ := hx cl hcl ρ h _ _ _ ho
      exact ⟨g1, fun E N μ a w Q s hfree hQ => wp_cond_true (hc s) (g2 E N μ a w Q s hfree hQ)⟩
    | false =>
      obtain ⟨g1, g2⟩ := hy cl hcl ρ h _ _ _ ho
      exact ⟨g1, fun E N μ a w Q s hfree hQ => wp_cond_false (hc s) (g2 E N μ a w Q s hfree hQ)⟩
  · cases ho
theorem block_ok {n id : Nat} {x : Code} {k : Clo} (hx : COk P n x k) : COk P n (.block id x) (blockF id k) := by
  intro cl hcl ρ h e ρ' h' ho
  simp only [blockF] at ho
  cases hr : k.f cl ρ h with
  | normal ρ1 h1 =>
    rw [hr] at ho; cases ho
    obtain ⟨g1, g2⟩ := hx cl hcl ρ h _ _ _ (by rw [hr]; rfl)
    exact ⟨g1, fun E N μ a w Q s hfree hQ => wp_block (g2 E N μ a w _ s hfree hQ)⟩
  | exit j ρ1 h1 =>
    rw [hr] at ho
    obtain ⟨g1, g2⟩ := hx cl hcl ρ h _ _ _ (by rw [hr]; rfl)
    cases hb : Nat.beq j id with
    | true =>
      have : j = id := Nat.eq_of_beq_eq_true hb
      subst this
      simp only [hb] at ho; cases ho
      exact ⟨g1, fun E N μ a w Q s hfree hQ => wp_block (g2 E N μ a w _ s hfree fun a' w' μ' s' ex => by
        show Exit.inBlock j Q (.exit j) a' w'
        simp only [Exit.inBlock, if_pos]; exact hQ _ _ _ s' ex)⟩
    | false =>
      have : j ≠ id := fun h => by subst h; simp at hb
      simp only [hb] at ho; cases ho
      exact ⟨g1, fun E N μ a w Q s hfree hQ => wp_block (g2 E N μ a w _ s hfree fun a' w' μ' s' ex => by
        show Exit.inBlock id Q (.exit j) a' w'
        simp only [Exit.inBlock, if_neg this]; exact hQ _ _ _ s' ex)⟩
  | ret ρ1 h1 =>
    rw [hr] at ho; cases ho
    obtain ⟨g1, g2⟩ := hx cl hcl ρ h _ _ _ (by rw [hr]; rfl)
    exact ⟨g1, fun E N μ a w Q s hfree hQ => wp_block (g2 E N μ a w _ s hfree hQ)⟩
  | err m => rw [hr] at ho; cases ho

/-! loops -/
def LoopAt (P : Program) (c : Code) (Q : Exit → Act → World → Prop) (a : Act) (w : World) : Prop :=
  ∀ (b : Frame) (k : List Item) (cs : List Frame), ∃ e a' w', Q e a' w' ∧ Arrives P (lone (b.at a (.code c :: .inLoop c :: k)) cs w) b k cs e a' w'
theorem loop_of {c : Code} {Q : Exit → Act → World → Prop} {a : Act} {w : World} (h : LoopAt P c Q a w) : (Code.loop c).wp P Q a w := by
  intro b k cs
  obtain ⟨e, a', w', hq, harr⟩ := h b k cs
  exact ⟨e, a', w', hq, .of_steps (.one step_loop) harr⟩
theorem loop_at {c : Code} {Q : Exit → Act → World → Prop} {a : Act} {w : World} (h : c.wp P (Exit.then (LoopAt P c Q) Q) a w) : LoopAt P c Q a w := by
  intro b k cs
  obtain ⟨e, a₁, w₁, hq, harr⟩ := h b (.inLoop c :: k) cs
  cases e with
  | normal =>
    obtain ⟨e₂, a₂, w₂, hq₂, harr₂⟩ := hq b k cs
    exact ⟨e₂, a₂, w₂, hq₂, .of_steps (Steps.trans harr (.one step_inLoop)) harr₂⟩
  | exit id => exact ⟨_, a₁, w₁, hq, .pass (x := .inLoop c) rfl (fun _ _ => .inl (by simp)) harr⟩
  | goto l => exact ⟨_, a₁, w₁, hq, .pass (x := .inLoop c) rfl (fun _ _ => .inl (by simp)) harr⟩
  | ret => exact ⟨_, a₁, w₁, hq, .pass (x := .inLoop c) rfl (fun _ _ => .inl (by simp)) harr⟩
  | panic ch => exact ⟨_, a₁, w₁, hq, .pass (x := .inLoop c) rfl (fun _ _ => .inl (by simp)) harr⟩
  | outgrown => exact ⟨_, a₁, w₁, hq, .pass (x := .inLoop c) rfl (fun _ _ => .inl (by simp)) harr⟩
theorem iter_ok {n : Nat} {x : Code} {k : Clo} (hx : COk P n x k) (cl : CallFn) (hcl : ClOk P cl) : ∀ (m : Nat) (ρ : Tmps) (h : H) (e : Exit) (ρ' : Tmps) (h' : H), out (iter k cl m ρ h) = some (e, ρ', h') →
    h.next ≤ h'.next ∧ ∀ (E : Env) (N : Nat) (μ : Mu) (a : Act) (w : World) (Q : Exit → Act → World → Prop), St E N μ n ρ h a w → Free μ h.next h'.next →
      (∀ a' w' μ', St E N μ' n ρ' h' a' w' → Ext μ h w μ' h' w' → Q e a' w') → LoopAt P x Q a w
  | 0, ρ, h, e, ρ', h', ho => by cases ho
  | m + 1, ρ, h, e, ρ', h', ho => by
    have hstep : iter k cl (m + 1) ρ h = RC.rec (motive := fun _ => RC) (fun ρ h => iter k cl m ρ h) (fun id ρ h => .exit id ρ h) (fun ρ h => .ret ρ h) (fun m => .err m) (k.f cl ρ h) := rfl
    rw [hstep] at ho
    cases hr : k.f cl ρ h with
    | normal ρ1 h1 =>
      rw [hr] at ho
      obtain ⟨g1, g2⟩ := hx cl hcl ρ h _ _ _ (by rw [hr]; rfl)
      obtain ⟨k1, k2⟩ := iter_ok hx cl hcl m ρ1 h1 _ _ _ ho
      refine ⟨by omega, fun E N μ a w Q s hfree hQ => loop_at (g2 E N μ a w _ s (hfree.first k1) fun a' w' μ' s' ex => ?_)⟩
      exact k2 E N μ' a' w' Q s' (hfree.after ex) fun a2 w2 μ2 s2 ex2 => hQ _ _ _ s2 (ex.trans ex2)
    | exit id ρ1 h1 =>
      rw [hr] at ho; cases ho
      obtain ⟨g1, g2⟩ := hx cl hcl ρ h _ _ _ (by rw [hr]; rfl)
      exact ⟨g1, fun E N μ a w Q s hfree hQ => loop_at (g2 E N μ a w _ s hfree hQ)⟩
    | ret ρ1 h1 =>
      rw [hr] at ho; cases ho
      obtain ⟨g1, g2⟩ := hx cl hcl ρ h _ _ _ (by rw [hr]; rfl)
      exact ⟨g1, fun E N μ a w Q s hfree hQ => loop_at (g2 E N μ a w _ s hfree hQ)⟩
    | err m => rw [hr] at ho; cases ho
theorem loop_ok {n : Nat} {x : Code} {k : Clo} (hx : COk P n x k) : COk P n (.loop x) (loopF k) := by
  intro cl hcl ρ h e ρ' h' ho
  have he : (loopF k).f cl ρ h = iter k cl (nat_lit 100000) ρ h := rfl
  rw [he] at ho
  generalize (nat_lit 100000) = m at ho
  obtain ⟨g1, g2⟩ := iter_ok hx cl hcl m ρ h e ρ' h' ho
  exact ⟨g1, fun E N μ a w Q s hfree hQ => loop_of (g2 E N μ a w Q s hfree hQ)⟩

theorem scope_ok {n : Nat} {x : Code} {k : Clo} (hx : COk P n x k) : COk P n (.scope x) k := by
  intro cl hcl ρ h e ρ' h' ho
  obtain ⟨g1, g2⟩ := hx cl hcl ρ h e ρ' h' ho
  have he : ∀ (Q : Exit → Act → World → Prop) a w, Q e a w → Exit.noGoto Q e a w := by
    intro Q a w hq
    cases hk : k.f cl ρ h <;> rw [hk] at ho <;> cases ho <;> exact hq
  exact ⟨g1, fun E N μ a w Q s hfree hQ => wp_scope_straight (g2 E N μ a w _ s hfree fun a' w' μ' s' ex => he Q _ _ (hQ a' w' μ' s' ex))⟩
theorem label_ok (n l : Nat) : COk P n (.label l) skipF := by
  intro cl _ ρ h e ρ' h' ho
  cases ho
  exact ⟨Nat.le_refl _, fun E N μ a w Q s _ hQ => wp_label (hQ _ _ _ s (Ext.refl _ _ _))⟩

theorem cCode_ok (n : Nat) (hdraw : ∀ id ops, COk P n (.region id ops true) (cDraw P n ops)) : ∀ c : Code, COk P n c (cCode P n c)
  | .skip => skip_ok n
  | .region id ops false => region_ok n id ops
  | .region id ops true => hdraw id ops
  | .seq a b => seq_ok (cCode_ok n hdraw a) (cCode_ok n hdraw b)
  | .cond _ a b => cond_ok (cCode_ok n hdraw a) (cCode_ok n hdraw b)
  | .block _ b => block_ok (cCode_ok n hdraw b)
  | .loop b => loop_ok (cCode_ok n hdraw b)
  | .exit id => exit_ok n id
  | .ret => ret_ok n
  | .rangeFunc .. => bad_cok n _ _
  | .scope b => scope_ok (cCode_ok n hdraw b)
  | .label l => label_ok n l
  | .goto _ => bad_cok n _ _
  | .refuse _ => bad_cok n _ _
end Go.Ax
