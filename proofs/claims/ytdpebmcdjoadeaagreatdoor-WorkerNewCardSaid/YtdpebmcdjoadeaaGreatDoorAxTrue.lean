/- Helper text: a function without parameters that is known to return true, in place of its run; arguments that are carried along and never looked into. -/
import Derived.Test.YtdpebmcdjoadeaaGreatDoorAxTop
namespace Go.Ax
variable {P : Program}

/-- a function without parameters that is known to return true -/
def trueP (args : List AV) (h : H) : RV := match args with
  | [] => .ok (.bool true) h
  | _ => .err "arguments"
def IsTrue (P : Program) (f : Nat) : Prop := ∀ w : World, Calls P f #[] w fun e w' => e = .returned (.bool true) ∧ RowKit.Below w.heap.size w w'

theorem ext_of_below {E : Env} {N : Nat} {μ : Mu} {h : H} {w w' : World} (r : Rel E N μ h w) (hb : RowKit.Below w.heap.size w w') : Rel E N μ h w' ∧ Ext μ h w μ h w' := by
  refine ⟨⟨fun b x e => ⟨(r.own b x e).1, Nat.lt_of_lt_of_le (r.own b x e).2 hb.size⟩, fun b x k e g => ?_, r.shares, r.maps, r.fresh⟩, ?_⟩
  · obtain ⟨o, h1, h2⟩ := r.blk b x k e g
    exact ⟨o, by rw [hb.block x.B (r.own b x e).2]; exact h1, h2⟩
  · exact ⟨fun _ _ e => e, fun b _ _ => Nat.lt_or_ge b h.next, fun _ _ e => .inl e, fun _ _ e e' => (by rw [e] at e'; cases e'), Nat.le_refl _, fun _ e _ => e,
      fun B hB _ => hb.block B hB, hb.size, hb.os, hb.tape, hb.output⟩

theorem trueP_ok {f : Nat} (hf : HasBody P f) (ht : IsTrue P f) {args : List AV} {h h' : H} {v : AV} (e : trueP args h = .ok v h') : h.next ≤ h'.next ∧ HasBody P f ∧
    ∀ (E : Env) (N : Nat) (μ : Mu) (args' : Array Value) (w : World), LRel E μ args args'.toList → Rel E N μ h w → N ≤ w.heap.size → Free μ h.next h'.next →
      Calls P f args' w fun e w' => ∃ v' μ', e = .returned v' ∧ VRel E μ' v v' ∧ Rel E N μ' h' w' ∧ Ext μ h w μ' h' w' := by
  cases args with
  | cons a l => cases e
  | nil =>
    cases e
    refine ⟨Nat.le_refl _, hf, fun E N μ args' w ha hr _ _ => ?_⟩
    obtain rfl : args' = #[] := by
      have := ha.length
      simpa using this
    refine (ht w).mono fun e w' ⟨h1, h2⟩ => ?_
    obtain ⟨g1, g2⟩ := ext_of_below hr h2
    exact ⟨.bool true, μ, h1, .bool true, g1, g2⟩

/-- the program's functions, one of them known to return true -/
noncomputable def cfgT (P : Program) (k : Nat) : Cfg := { fn := (cfgOf P []).fn, prim := fun f => match Nat.beq f k with
  | true => some trueP
  | false => none }
theorem cfgT_ok {k : Nat} (hn : noNum P = true) (hf : HasBody P k) (ht : IsTrue P k) : CfgOk P (cfgT P k) where
  fn := (cfg_ok hn (snaps_nil (P := P))).fn
  prim := fun f p h args h0 v h' e => by
    unfold cfgT at h
    simp only at h
    split at h
    · rename_i he
      have he := Nat.eq_of_beq_eq_true he
      subst he
      cases h
      exact trueP_ok hf ht e
    · cases h

/-! ### arguments that are carried along -/
theorem one_of_okWide {w : World} {r : Reach} {base : Nat} {t : TypeId} {v : Value} (h : Cell.okWide P w r base t v) : one v = true := by
  cases v <;> first
    | rfl
    | (exfalso; simp only [Cell.okWide, Cell.ok] at h; split at h <;> simp_all)
theorem one_of_row {w : World} {r : Reach} {base : Nat} {t : TypeId} {cs : Array Value} (h : Row.okWide P w r base t cs) : ∀ v ∈ cs.toList, one v = true := by
  obtain ⟨ts, _, _, h3⟩ := h
  intro v hv
  obtain ⟨i, hi⟩ := List.getElem?_of_mem hv
  obtain ⟨u, _, hu⟩ := h3 i v (by simpa using hi)
  exact one_of_okWide hu

def opqs (k : Nat) : Nat → List AV
  | 0 => []
  | n + 1 => .opq k :: opqs (k + 1) n
def envOf (L : List Value) (h : ∀ v ∈ L, one v = true) : Env := ⟨fun i => L.getD i (.bool true), fun i => by
  cases e : L[i]? with
  | none => simp [List.getD, e, one]
  | some v => simpa [List.getD, e] using h v (List.mem_of_getElem? e)⟩
theorem lrel_opqs {μ : Mu} {L : List Value} {h : ∀ v ∈ L, one v = true} : ∀ (l pre post : List Value), L = pre ++ (l ++ post) → ∀ k, k = pre.length → LRel (envOf L h) μ (opqs k l.length) l
  | [], _, _, _, _, _ => .nil
  | v :: l, pre, post, e, k, hk => by
    subst hk
    have hv : VRel (envOf L h) μ (.opq pre.length) v := by
      have hq := VRel.opq (E := envOf L h) (μ := μ) pre.length
      have : (envOf L h).val pre.length = v := by simp [envOf, e]
      rwa [this] at hq
    exact .cons hv (lrel_opqs l (pre ++ [v]) post (by simp [e]) _ (by simp))
theorem vrel_opq {μ : Mu} {L : List Value} {h : ∀ v ∈ L, one v = true} (v : Value) (pre post : List Value) (e : L = pre ++ (v :: post)) (k : Nat) (hk : k = pre.length) : VRel (envOf L h) μ (.opq k) v := by
  have := lrel_opqs (μ := μ) (h := h) [v] pre post (by simpa using e) k hk
  cases this with
  | cons h _ => exact h
end Go.Ax
