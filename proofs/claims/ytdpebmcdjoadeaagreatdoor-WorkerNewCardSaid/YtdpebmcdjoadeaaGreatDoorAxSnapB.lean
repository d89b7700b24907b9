/- Helper text: a snap stands for its call. -/
import Derived.Test.YtdpebmcdjoadeaaGreatDoorAxSnapA
namespace Go.Ax
variable {E : Env} {N : Nat} {μ μ' : Mu} {P : Program}

theorem T.getF_setF_any {α : Type} {x x' y : α} : ∀ (f : Nat) (t t' : T α) (i : Nat), T.getF f (T.setF x f t i) i = some y → T.getF f (T.setF x' f t' i) i = some x' := by
  intro f
  induction f with
  | zero => intro t t' i h; cases h
  | succ f ih =>
    intro t t' i h
    cases i with
    | zero => rw [T.setF_zero, T.getF_zero]; rfl
    | succ i =>
      by_cases hi : i % 2 = 0
      · rw [T.setF_even _ _ _ _ hi, T.getF_even _ _ _ hi, T.l_node] at h
        rw [T.setF_even _ _ _ _ hi, T.getF_even _ _ _ hi, T.l_node]
        exact ih _ _ _ h
      · rw [T.setF_odd _ _ _ _ hi, T.getF_odd _ _ _ hi, T.r_node] at h
        rw [T.setF_odd _ _ _ _ hi, T.getF_odd _ _ _ hi, T.r_node]
        exact ih _ _ _ h
theorem T.get_set_any {α : Type} {x x' y : α} {t t' : T α} {i : Nat} (h : T.get (T.set x t i) i = some y) : T.get (T.set x' t' i) i = some x' := T.getF_setF_any 64 t t' i h

theorem setsB_swap : ∀ {l : List (Nat × RB)} {t t' : T Blk} {c : Nat} {k : Blk}, hasB c l = true → T.get (setsB l t) c = some k → T.get (setsB l t') c = some k
  | [], t, t', c, k, h, _ => by cases h
  | (b, r) :: l, t, t', c, k, h, e => by
    have e : T.get (T.set r.blk (setsB l t) b) c = some k := e
    show T.get (T.set r.blk (setsB l t') b) c = some k
    by_cases hc : c = b
    · subst hc
      rw [T.get_set_self e]
      exact T.get_set_any e
    · rw [T.get_set_ne _ _ hc] at e ⊢
      unfold hasB at h
      split at h
      · rename_i hb; exact absurd (Nat.eq_of_beq_eq_true hb) hc
      · exact setsB_swap h e
theorem setsB_old : ∀ {l : List (Nat × RB)} {t : T Blk} {c : Nat}, hasB c l = false → T.get (setsB l t) c = T.get t c
  | [], _, _, _ => rfl
  | (b, r) :: l, t, c, h => by
    unfold hasB at h
    split at h
    · cases h
    · rename_i hb
      have hc : c ≠ b := fun e => by subst e; simp at hb
      show T.get (T.set r.blk (setsB l t) b) c = _
      rw [T.get_set_ne _ _ hc]
      exact setsB_old h
theorem setsS_lift : ∀ {l : List (Nat × List Nat)} {t : T (List Nat)} {c : Nat} {k : List Nat}, T.get (setsS l .nil) c = some k → T.get (setsS l t) c = some k
  | [], t, c, k, h => by
    have h : T.get (.nil : T (List Nat)) c = some k := h
    rw [T.get_nil] at h; cases h
  | (b, r) :: l, t, c, k, e => by
    have e : T.get (T.set r (setsS l .nil) b) c = some k := e
    show T.get (T.set r (setsS l t) b) c = some k
    by_cases hc : c = b
    · subst hc
      rw [T.get_set_self e]
      exact T.get_set_any e
    · rw [T.get_set_ne _ _ hc] at e ⊢
      exact setsS_lift e
def keyS (c : Nat) : List (Nat × List Nat) → Bool
  | [] => false
  | (b, _) :: l => match Nat.beq c b with | true => true | false => keyS c l
theorem setsS_old : ∀ {l : List (Nat × List Nat)} {t : T (List Nat)} {c : Nat}, keyS c l = false → T.get (setsS l t) c = T.get t c
  | [], _, _, _ => rfl
  | (b, r) :: l, t, c, h => by
    unfold keyS at h
    split at h
    · cases h
    · rename_i hb
      have hc : c ≠ b := fun e => by subst e; simp at hb
      show T.get (T.set r (setsS l t) b) c = _
      rw [T.get_set_ne _ _ hc]
      exact setsS_old h

def SnapOk (P : Program) (s : Snap) : Prop := HasBody P s.f ∧ s.next ≤ s.next' ∧ keysIn s.outs s.ins = true ∧
  ∀ (E : Env) (N : Nat) (μ : Mu) (args' : Array Value) (w : World), LRel E μ s.args args'.toList → Rel E N μ s.hin w → N ≤ w.heap.size → Free μ s.next s.next' →
    Calls P s.f args' w fun e w' => ∃ v' μ', e = .returned v' ∧ VRel E μ' s.v v' ∧ Rel E N μ' s.hout w' ∧ Ext μ s.hin w μ' s.hout w'

theorem Ext.less {h h1 h2 : H} {w w' : World} (x : Ext μ h w μ' h1 w') (l : LessH h2 h1) : Ext μ h w μ' h2 w' where
  le := x.le
  free := by rw [l.next]; exact x.free
  dom := by rw [l.next]; exact x.dom
  new := x.new
  next := by rw [l.next]; exact x.next
  absent := fun b e hb => l.none (x.absent b e (by rw [← l.next]; exact hb))
  kept := x.kept
  size := x.size
  os := x.os
  tape := x.tape
  output := x.output

theorem sibsClosed_ok {ins : List (Nat × RB)} {h : H} : ∀ {l : List (Nat × List Nat)}, sibsClosed ins h l = true → ∀ root ls, keyS root l = true → T.get h.sibs root = some ls →
    ∀ d, d ∈ ls → hasB d ins = true ∨ T.get h.heap d = none
  | [], _, root, ls, hk, _, _, _ => by cases hk
  | (r, q) :: l, he, root, ls, hk, hs, d, hd => by
    unfold sibsClosed at he
    unfold keyS at hk
    split at hk
    · rename_i e
      have e := Nat.eq_of_beq_eq_true e
      subst e
      rw [hs] at he
      simp only at he
      split at he
      · rename_i h1; exact closedL_ok h1 d hd
      · cases he
    · split at he
      · exact sibsClosed_ok he root ls hk hs d hd
      · split at he
        · exact sibsClosed_ok he root ls hk hs d hd
        · cases he
theorem snap_ok {G : Cfg} {n : Nat} (hcl : ClOk P (call G n)) {s : Snap} (hs : checkSnap G n s = true) : SnapOk P s := by
  unfold checkSnap at hs
  split at hs
  · cases hs
  · rename_i hk
    split at hs
    · rename_i v h hc
      split at hs
      · rename_i hv
        split at hs
        · rename_i hn
          obtain ⟨h1, h2, h3⟩ := hcl _ _ _ _ _ hc
          have hn := Nat.eq_of_beq_eq_true hn
          have hl : LessH s.hout h := memLe_less hs hn.symm
          have hv := eqAV_t _ _ _ hv
          subst hv
          refine ⟨h2, by rw [← hn]; exact h1, hk, fun E N μ args' w ha r hN hf => ?_⟩
          refine Calls.mono (h3 E N μ args' w ha r hN (by rw [hn]; exact hf)) fun e w' ⟨v', μ', q1, q2, q3, q4⟩ => ?_
          exact ⟨v', μ', q1, q2, q3.less hl, q4.less hl⟩
        · cases hs
      · cases hs
    · cases hs

theorem useSnap_ok {s : Snap} (hs : SnapOk P s) {args : List AV} {h h' : H} (hu : useSnap s args h = some h') : h.next ≤ h'.next ∧ HasBody P s.f ∧
    ∀ (E : Env) (N : Nat) (μ : Mu) (args' : Array Value) (w : World), LRel E μ args args'.toList → Rel E N μ h w → N ≤ w.heap.size → Free μ h.next h'.next →
      Calls P s.f args' w fun e w' => ∃ v' μ', e = .returned v' ∧ VRel E μ' s.v v' ∧ Rel E N μ' h' w' ∧ Ext μ h w μ' h' w' := by
  unfold useSnap at hu
  split at hu
  · cases hu
  · rename_i hn
    have hn := Nat.eq_of_beq_eq_true hn
    split at hu
    · cases hu
    · rename_i ha
      have ha := listEq_t (eqAV_t 9) _ _ ha
      subst ha
      split at hu
      · cases hu
      · rename_i hm
        split at hu
        · cases hu
        · rename_i hcl
          split at hu
          · cases hu
          rename_i hsc
          cases hu
          obtain ⟨s1, s2, s3, s4⟩ := hs
          have hless : LessH s.hin h := memLe_less hm hn.symm
          refine ⟨by rw [hn]; exact s2, s1, fun E N μ args' w hargs r hN hf => ?_⟩
          have hf' : Free μ s.next s.next' := by rw [← hn]; exact hf
          refine Calls.mono (s4 E N μ args' w hargs (r.less hless) hN hf') fun e w' ⟨v', μ', q1, q2, r', ex⟩ => ⟨v', μ', q1, q2, ?_⟩
          -- numbers below next
          have hxn : s.hin.next = s.next := rfl
          have hxn' : s.hout.next = s.next' := rfl
          have hhas : ∀ b r0, (b, r0) ∈ s.ins → T.get h.heap b ≠ none := fun b r0 hb e => by
            obtain ⟨k, g1, _⟩ := memLe_ok hm b r0 hb
            rw [e] at g1; cases g1
          have hinhas : ∀ b, T.get s.hin.heap b ≠ none → hasB b s.ins = true := by
            intro b hb
            cases e : T.get s.hin.heap b with
            | none => exact absurd e hb
            | some k =>
              rcases setsB_get e with ⟨r0, g1, _⟩ | ⟨_, g1⟩
              · exact hasB_mem g1
              · rw [T.get_nil] at g1; cases g1
          -- an old block that is not among the outs
          have hold : ∀ b x k, μ' b = some x → hasB b s.outs = false → T.get h.heap b = some k → μ b = some x ∧ hasB b s.ins = false ∧ ∀ b' x', μ b' = some x' → x'.B = x.B → T.get s.hin.heap b' = none := by
            intro b x k e hno hk
            have hlt : b < h.next := by
              rcases Nat.lt_or_ge b h.next with q | q
              · exact q
              · rw [r.fresh b q] at hk; cases hk
            have hμ : μ b = some x := by
              rcases ex.dom b _ e with q | ⟨q, _⟩
              · exact q
              · rw [hxn] at q; omega
            have hnin : hasB b s.ins = false := by
              cases hb : hasB b s.ins with
              | false => rfl
              | true => rw [keysIn_ok s3 hb] at hno; cases hno
            refine ⟨hμ, hnin, fun b' x' e' hB => ?_⟩
            cases hg : T.get s.hin.heap b' with
            | none => rfl
            | some k' =>
              exfalso
              rcases setsB_get hg with ⟨r0, g1, g2⟩ | ⟨_, g1⟩
              · have hne : b' ≠ b := fun q => by subst q; rw [hasB_mem g1] at hnin; cases hnin
                obtain ⟨k2, g3, g4, _⟩ := memLe_ok hm b' r0 g1
                cases r0 with
                | row sz root cs =>
                  obtain ⟨cs2, rfl⟩ := LessB.cells (g4 : LessB (.cells sz (T.ofList cs 0 .nil) root) k2)
                  cases k with
                  | cells sz1 cs1 root1 =>
                    obtain ⟨p1, p2, ls, p3, p4, p5⟩ := r.shares b' b x' x sz sz1 cs2 cs1 root root1 hne e' hμ hB g3 hk
                    rcases memClosed_ok hcl b' sz root cs ls g1 p3 b p5 with p6 | p6
                    · rw [p6] at hnin; cases hnin
                    · rw [p6] at hk; cases hk
                  | map es1 c1 =>
                    obtain ⟨o1, p1, p2⟩ := r.blk b' x' _ e' g3
                    obtain ⟨o2, p3, p4⟩ := r.blk b x _ hμ hk
                    rw [hB, p3] at p1; cases p1
                    obtain ⟨_, _, _, p5, _⟩ := p2
                    obtain ⟨_, p6, _⟩ := p4
                    rw [p5] at p6; cases p6
                | map es c =>
                  have hk2 := LessB.map (g4 : LessB (.map es c) k2)
                  subst hk2
                  cases k with
                  | cells sz1 cs1 root1 =>
                    obtain ⟨o1, p1, p2⟩ := r.blk b' x' _ e' g3
                    obtain ⟨o2, p3, p4⟩ := r.blk b x _ hμ hk
                    rw [hB, p3] at p1; cases p1
                    obtain ⟨_, p5, _⟩ := p2
                    obtain ⟨_, _, _, p6, _⟩ := p4
                    rw [p5] at p6; cases p6
                  | map es1 c1 => exact hne (r.maps b' b x' x es c es1 c1 e' hμ hB g3 hk)
              · rw [T.get_nil] at g1; cases g1
          -- no alias of an old block under the new numbering
          have hfar : ∀ b x k, μ' b = some x → hasB b s.outs = false → T.get h.heap b = some k → ∀ b' x', μ' b' = some x' → hasB b' s.outs = true → T.get s.hout.heap b' ≠ none → x'.B = x.B → False := by
            intro b x k e hno hk b' x' e' hin' hout' hB
            obtain ⟨p1, p2, p3⟩ := hold b x k e hno hk
            cases hb' : μ b' with
            | some z =>
              have := ex.le _ _ hb'
              rw [this] at e'; cases e'
              have hnone := p3 b' _ hb' hB
              rcases ex.free b' _ hb' with q | q
              · exact hout' (ex.absent b' hnone (.inl q))
              · exact hout' (ex.absent b' hnone (.inr q))
            | none =>
              rcases ex.new b' x' e' hb' with q | ⟨b0, x0, g1, g2, g3⟩
              · have := (r.own b x p1).2; omega
              · exact g3 (p3 b0 x0 g1 (by omega))
          have hcase : ∀ b k, T.get (setsB s.outs h.heap) b = some k → (hasB b s.outs = true ∧ T.get s.hout.heap b = some k) ∨ (hasB b s.outs = false ∧ T.get h.heap b = some k) := by
            intro b k g
            cases hb : hasB b s.outs with
            | true => exact .inl ⟨rfl, setsB_swap hb g⟩
            | false => rw [setsB_old hb] at g; exact .inr ⟨rfl, g⟩
          have hboth : ∀ b x k b' x' k', μ' b = some x → μ' b' = some x' → x.B = x'.B → T.get (setsB s.outs h.heap) b = some k → T.get (setsB s.outs h.heap) b' = some k' →
              (T.get s.hout.heap b = some k ∧ T.get s.hout.heap b' = some k') ∨ (hasB b s.ins = false ∧ μ b = some x ∧ μ b' = some x' ∧ T.get h.heap b = some k ∧ T.get h.heap b' = some k') := by
            intro b x k b' x' k' e e' hB g g'
            rcases hcase b k g with ⟨p1, p2⟩ | ⟨p1, p2⟩
            · rcases hcase b' k' g' with ⟨p1', p2'⟩ | ⟨p1', p2'⟩
              · exact .inl ⟨p2, p2'⟩
              · exact (hfar b' x' k' e' p1' p2' b x e p1 (by rw [p2]; simp) hB).elim
            · rcases hcase b' k' g' with ⟨p1', p2'⟩ | ⟨p1', p2'⟩
              · exact (hfar b x k e p1 p2 b' x' e' p1' (by rw [p2']; simp) hB.symm).elim
              · obtain ⟨z1, z2, _⟩ := hold b x k e p1 p2
                obtain ⟨z1', _, _⟩ := hold b' x' k' e' p1' p2'
                exact .inr ⟨z2, z1, z1', p2, p2'⟩
          refine ⟨?_, ?_⟩
          · exact {
              own := r'.own
              blk := fun b x k e g => by
                rcases hcase b k g with ⟨_, p2⟩ | ⟨p1, p2⟩
                · exact r'.blk b x k e p2
                · obtain ⟨z1, _, z3⟩ := hold b x k e p1 p2
                  obtain ⟨o, g1, g2⟩ := r.blk b x k z1 p2
                  exact ⟨o, by rw [ex.kept x.B (r.own b x z1).2 z3]; exact g1, g2.mono ex.le⟩
              shares := fun b b' x x' sz sz' cs cs' root root' hne e e' hB g g' => by
                rcases hboth b x _ b' x' _ e e' hB g g' with ⟨p1, p2⟩ | ⟨p0, p1, p2, p3, p4⟩
                · obtain ⟨q1, q2, ls, q3, q4⟩ := r'.shares b b' x x' sz sz' cs cs' root root' hne e e' hB p1 p2
                  exact ⟨q1, q2, ls, setsS_lift q3, q4⟩
                · obtain ⟨q1, q2, ls, q3, q4, q5⟩ := r.shares b b' x x' sz sz' cs cs' root root' hne p1 p2 hB p3 p4
                  refine ⟨q1, q2, ls, ?_, q4, q5⟩
                  cases hk : keyS root s.sibs' with
                  | false => show T.get (setsS s.sibs' h.sibs) root = some ls; rw [setsS_old hk]; exact q3
                  | true =>
                    rcases sibsClosed_ok hsc root ls hk q3 b q4 with z | z
                    · rw [z] at p0; cases p0
                    · rw [z] at p3; cases p3
              maps := fun b b' x x' es c es' c' e e' hB g g' => by
                rcases hboth b x _ b' x' _ e e' hB g g' with ⟨p1, p2⟩ | ⟨_, p1, p2, p3, p4⟩
                · exact r'.maps b b' x x' es c es' c' e e' hB p1 p2
                · exact r.maps b b' x x' es c es' c' p1 p2 hB p3 p4
              fresh := fun b hb => by
                have hb : s.next' ≤ b := hb
                cases g : T.get (setsB s.outs h.heap) b with
                | none => rfl
                | some k =>
                  rcases hcase b k g with ⟨_, p2⟩ | ⟨_, p2⟩
                  · rw [r'.fresh b hb] at p2; cases p2
                  · rw [r.fresh b (by omega)] at p2; cases p2 }
          · exact {
              le := ex.le
              free := hf
              dom := fun b x e => by
                rcases ex.dom b x e with q | ⟨q1, q2⟩
                · exact .inl q
                · rw [hxn] at q1; rw [hxn'] at q2; exact .inr ⟨by omega, q2⟩
              new := fun b x e e0 => by
                rcases ex.new b x e e0 with q | ⟨b0, x0, g1, g2, g3⟩
                · exact .inl q
                · exact .inr ⟨b0, x0, g1, g2, fun q => g3 (hless.none q)⟩
              next := by show h.next ≤ s.next'; omega
              absent := fun b e hb => by
                have hb : b < h.next ∨ s.next' ≤ b := hb
                cases g : T.get (setsB s.outs h.heap) b with
                | none => rfl
                | some k =>
                  rcases hcase b k g with ⟨_, p2⟩ | ⟨_, p2⟩
                  · rw [ex.absent b (hless.none e) (by rw [hxn, hxn']; omega)] at p2; cases p2
                  · rw [e] at p2; cases p2
              kept := fun B hB hk => ex.kept B hB fun b x e eB => hless.none (hk b x e eB)
              size := ex.size, os := ex.os, tape := ex.tape, output := ex.output }

theorem useSnaps_ok {f : FuncId} : ∀ {l : List Snap}, (∀ s, s ∈ l → s.f = f ∧ SnapOk P s) → ∀ {args : List AV} {h h' : H} {v : AV}, useSnaps l args h = .ok v h' → h.next ≤ h'.next ∧ HasBody P f ∧
    ∀ (E : Env) (N : Nat) (μ : Mu) (args' : Array Value) (w : World), LRel E μ args args'.toList → Rel E N μ h w → N ≤ w.heap.size → Free μ h.next h'.next →
      Calls P f args' w fun e w' => ∃ v' μ', e = .returned v' ∧ VRel E μ' v v' ∧ Rel E N μ' h' w' ∧ Ext μ h w μ' h' w'
  | [], _, args, h, h', v, e => by cases e
  | s :: l, hl, args, h, h', v, e => by
    unfold useSnaps at e
    split at e
    · rename_i h1 hu
      cases e
      obtain ⟨rfl, hs⟩ := hl s List.mem_cons_self
      exact useSnap_ok hs hu
    · exact useSnaps_ok (fun s hs => hl s (List.mem_cons_of_mem _ hs)) e
end Go.Ax
