/- Helper text: one operation of a region: from the executor's step to the model's. -/
import Derived.Test.YtdpebmcdjoadeaaGreatDoorAxNext
namespace Go.Ax
variable {E : Env} {N : Nat} {μ μ' : Mu} {P : Program}

/-- the state in the middle of a function -/
structure St (E : Env) (N : Nat) (μ : Mu) (n : Nat) (ρ : Tmps) (h : H) (a : Act) (w : World) : Prop where
  tmps : TRel E μ n ρ a.tmps
  defers : a.defers = []
  rel : Rel E N μ h w
  low : N ≤ w.heap.size

/-- what the executor's calls promise -/
def ClOk (P : Program) (cl : CallFn) : Prop := ∀ f args h v h', cl f args h = .ok v h' → h.next ≤ h'.next ∧ HasBody P f ∧
  ∀ (E : Env) (N : Nat) (μ : Mu) (args' : Array Value) (w : World), LRel E μ args args'.toList → Rel E N μ h w → N ≤ w.heap.size → Free μ h.next h'.next →
    Calls P f args' w fun e w' => ∃ v' μ', e = .returned v' ∧ VRel E μ' v v' ∧ Rel E N μ' h' w' ∧ Ext μ h w μ' h' w'

theorem put_none (v : AV) (ρ : Tmps) : put none v ρ = ρ := rfl
theorem put_some (p : List Bool) (v : AV) (ρ : Tmps) : put (some p) v ρ = T.setP v p ρ := rfl

theorem dst_cases {n : Nat} {d : Option Tmp} {p : Option (List Bool)} (h : cDst n d = some p) : (d = none ∧ p = none) ∨ ∃ t, d = some t ∧ t < n ∧ t < 4095 ∧ p = some (wayOf t) := by
  unfold cDst at h
  split at h
  · cases h; exact .inl ⟨rfl, rfl⟩
  · rename_i t
    split at h
    · rename_i h1
      split at h
      · rename_i h2
        cases h
        exact .inr ⟨t, rfl, blt_t h1, blt_t h2, rfl⟩
      · cases h
    · cases h

theorem TRel.put {n : Nat} {ρ : Tmps} {a : Act} {d : Option Tmp} {p : Option (List Bool)} {v : AV} {v' : Value} (h : TRel E μ n ρ a.tmps) (hd : cDst n d = some p) (hv : VRel E μ v v') :
    TRel E μ n (put p v ρ) (a.put d v').tmps := by
  rcases dst_cases hd with ⟨rfl, rfl⟩ | ⟨t, rfl, h1, h2, rfl⟩
  · exact h
  · rw [put_some, T.setP_way _ _ _ h2]
    refine ⟨by simp only [Act.put, Array.size_setIfInBounds]; exact h.size, fun s u hs => ?_⟩
    by_cases e : s = t
    · subst e
      rw [T.getF_setF_self _ _ _ _ _ hs]
      exact ⟨v', by simp only [Act.put]; rw [Array.getElem?_setIfInBounds_self, if_pos (Nat.lt_of_lt_of_le h1 h.size)], hv⟩
    · rw [T.getF_setF_ne _ _ _ _ _ e] at hs
      obtain ⟨u', g1, g2⟩ := h.rel s u hs
      exact ⟨u', by simp only [Act.put]; rw [Array.getElem?_setIfInBounds_ne (Ne.symm e)]; exact g1, g2⟩

theorem put_defers (a : Act) (d : Option Tmp) (v : Value) : (a.put d v).defers = a.defers := by cases d <;> rfl

section
variable {n : Nat} {ρ : Tmps} {h : H} {a : Act} {w : World} {o : Oper} {Q : Exit → Act → World → Prop} {K : Act → World → Prop}

theorem pure_wp {f : Tmps → Option AV} {v : AV} (hk : PureOk P o f) (hr : ∀ x ∈ o.op.operands.toList, Related E μ ρ a x) (hf : f ρ = some v)
    (hK : ∀ v', VRel E μ v v' → K (a.put o.dst v') w) : o.wp P a w K Q := by
  obtain ⟨v', h1, h2⟩ := hk E μ ρ a v hr hf
  rw [Oper.wp, h2 w]
  exact hK v' h1
theorem read_wp {f : Tmps → H → Option AV} {v : AV} (hk : ReadOk P o f) (hr : ∀ x ∈ o.op.operands.toList, Related E μ ρ a x) (r : Rel E N μ h w) (hf : f ρ h = some v)
    (hK : ∀ v', VRel E μ v v' → K (a.put o.dst v') w) : o.wp P a w K Q := by
  obtain ⟨v', h1, h2⟩ := hk E N μ ρ a h w v hr r hf
  rw [Oper.wp, h2]
  exact hK v' h1
theorem new_wp {f : Tmps → Option NB} {nb : NB} (hk : NewOk P o f) (hr : ∀ x ∈ o.op.operands.toList, Related E μ ρ a x) (hf : f ρ = some nb)
    (hK : ∀ v' w' obj m, Pushed w obj w' → (∀ id, BRel E μ 0 m (nb.blk id) obj) → (∀ μ' id, Mu.le μ μ' → μ' id = some ⟨w.heap.size, 0, m⟩ → VRel E μ' (nb.val id) v') → K (a.put o.dst v') w') :
    o.wp P a w K Q := by
  obtain ⟨obj, v', w', m, h1, h2, h3, h4⟩ := hk E μ ρ a w nb hr hf
  rw [Oper.wp, h1]
  exact hK v' w' obj m h2 h3 h4
theorem loud_wp {cl : CallFn} {f : Tmps → H → LR} {v : AV} {h' : H} (hcl : ClOk P cl) (hk : LoudOk P o f) (hr : ∀ x ∈ o.op.operands.toList, Related E μ ρ a x) (r : Rel E N μ h w)
    (hN : N ≤ w.heap.size) (hf : runLoud f cl ρ h = .ok v h') (hfree : Free μ h.next h'.next)
    (hK : ∀ v' w' μ', VRel E μ' v v' → Rel E N μ' h' w' → Ext μ h w μ' h' w' → K (a.put o.dst v') w') : o.wp P a w K Q := by
  have hp := hk E N μ ρ a h w hr r hN
  unfold runLoud at hf
  split at hf
  · rename_i v1 h1 heq
    cases hf
    rw [heq] at hp
    obtain ⟨μ', w', v', nx, g1, g2, g3, g4, g5⟩ := hp hfree
    rw [Oper.wp, g1]
    rcases g2 with rfl | ⟨rfl, rfl⟩
    · exact hK _ _ _ g3 g4 g5
    · exact hK _ _ _ g3 g4 g5
  · rename_i g as heq
    rw [heq] at hp
    obtain ⟨_, hb, hc⟩ := hcl _ _ _ _ _ hf
    obtain ⟨args', g1, g2⟩ := hp hb
    rw [Oper.wp, g1]
    exact Calls.mono (hc E N μ args' w g2 r hN hfree) fun e w' ⟨v', μ', he, q1, q2, q3⟩ => by
      subst he; exact hK _ _ _ q1 q2 q3
  · cases hf

theorem loud_next {cl : CallFn} {f : Tmps → H → LR} {v : AV} {h' : H} (hcl : ClOk P cl) (hk : ∀ ρ h, LNext h (f ρ h)) (hf : runLoud f cl ρ h = .ok v h') : h.next ≤ h'.next := by
  have := hk ρ h
  unfold runLoud at hf
  split at hf
  · rename_i heq; cases hf; rw [heq] at this; exact this
  · exact (hcl _ _ _ _ _ hf).1
  · cases hf
end

/-! guards -/
theorem want_slot {ρ : Tmps} {a : Act} {ops : Array Oper} {o : Oper} {p : List Bool} {w b : Bool}
    (h : ∀ t v, t ∈ guardSlot ops o → T.getF 12 ρ t = some v → ∃ v', a.tmps[t]? = some v' ∧ VRel E μ v v') (hg : cGuard ops o.guard = some (some (p, w)))
    (hw : wantA ρ p w = some b) : Region.wanted o (yielded ops a.tmps) = b := by
  cases hgd : o.guard with
  | none => rw [hgd] at hg; simp [cGuard] at hg
  | some x =>
    obtain ⟨j, w'⟩ := x
    rw [hgd] at hg
    unfold cGuard at hg
    simp only at hg
    split at hg
    · rename_i t ht
      have hmem : t ∈ guardSlot ops o := by
        unfold guardSlot
        rw [hgd]
        simp only [ht]
        exact List.mem_singleton.mpr rfl
      split at hg
      · rename_i hlt
        have hlt := blt_t hlt
        cases hg
        simp only [Region.wanted, hgd, yielded, ht, Option.bind_some]
        unfold wantA at hw
        rw [T.getP_way _ _ hlt] at hw
        split at hw
        · rename_i c hc
          cases hw
          obtain ⟨v', g1, g2⟩ := h _ _ hmem hc
          cases g2
          rw [g1]
          cases c <;> cases w <;> rfl
        · rename_i hc
          cases hw
          obtain ⟨v', g1, g2⟩ := h _ _ hmem hc
          cases g2 with | tuple g2 => ?_
          cases g2
          rw [g1]; rfl
        · cases hw
      · cases hg
    · cases hg
theorem want_ok {n : Nat} {ρ : Tmps} {a : Act} {ops : Array Oper} {o : Oper} {p : List Bool} {w b : Bool} (h : TRel E μ n ρ a.tmps) (hg : cGuard ops o.guard = some (some (p, w)))
    (hw : wantA ρ p w = some b) : Region.wanted o (yielded ops a.tmps) = b := want_slot (fun t v _ => h.rel t v) hg hw
theorem want_none {ops : Array Oper} {o : Oper} {y : Nat → Option Bool} (hg : cGuard ops o.guard = some none) : Region.wanted o y = true := by
  cases hgd : o.guard with
  | none => simp [Region.wanted, hgd]
  | some x =>
    rw [hgd] at hg
    unfold cGuard at hg
    simp only at hg
    split at hg
    · split at hg <;> cases hg
    · cases hg
end Go.Ax
