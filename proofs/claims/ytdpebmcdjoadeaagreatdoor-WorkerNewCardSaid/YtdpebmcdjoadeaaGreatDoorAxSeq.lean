/- Helper text: regions whose order is that of the text. -/
import Derived.Test.YtdpebmcdjoadeaaGreatDoorAxOne
namespace Go.Ax
variable {E : Env} {N : Nat} {μ μ' : Mu} {P : Program}

def out : RC → Option (Exit × Tmps × H)
  | .normal ρ h => some (.normal, ρ, h)
  | .exit id ρ h => some (.exit id, ρ, h)
  | .ret ρ h => some (.ret, ρ, h)
  | .err _ => none

/-- what a piece of code promises -/
def COk (P : Program) (n : Nat) (c : Code) (k : Clo) : Prop := ∀ cl, ClOk P cl → ∀ ρ h e ρ' h', out (k.f cl ρ h) = some (e, ρ', h') → h.next ≤ h'.next ∧
  ∀ (E : Env) (N : Nat) (μ : Mu) (a : Act) (w : World) (Q : Exit → Act → World → Prop), St E N μ n ρ h a w → Free μ h.next h'.next →
    (∀ a' w' μ', St E N μ' n ρ' h' a' w' → Ext μ h w μ' h' w' → Q e a' w') → c.wp P Q a w

theorem Free.first {lo mid hi : Nat} (h : Free μ lo hi) (h1 : mid ≤ hi) : Free μ lo mid := fun b x hb => by have := h b x hb; omega
theorem Free.after {h h1 : H} {w w1 : World} {hi : Nat} (f : Free μ h.next hi) (e : Ext μ h w μ' h1 w1) : Free μ' h1.next hi := fun b x hb => by
  rcases e.dom b x hb with g | ⟨g1, g2⟩
  · have := f b x g
    have := e.free b x g
    have := e.next
    omega
  · exact .inl g2

/-- what the rest of a region promises -/
def ROk (P : Program) (n : Nat) (ops : Array Oper) (is : List Nat) (k : Clo) : Prop := ∀ cl, ClOk P cl → ∀ ρ h e ρ' h', out (k.f cl ρ h) = some (e, ρ', h') → h.next ≤ h'.next ∧
  ∀ (E : Env) (N : Nat) (μ : Mu) (a : Act) (w : World) (Q : Exit → Act → World → Prop), St E N μ n ρ h a w → Free μ h.next h'.next →
    (∀ a' w' μ', St E N μ' n ρ' h' a' w' → Ext μ h w μ' h' w' → Q e a' w') → wpOps P ops Q is a w

theorem bad_rok (n : Nat) (ops : Array Oper) (is : List Nat) (m : String) : ROk P n ops is (badF m) := by
  intro cl _ ρ h e ρ' h' ho
  cases ho

/-- the step of one operation that is run -/
def OneOk (P : Program) (n : Nat) (o : Oper) (ops : Array Oper) (is : List Nat) (k : Clo) : Prop := ∀ cl, ClOk P cl → ∀ ρ h e ρ' h', out (k.f cl ρ h) = some (e, ρ', h') → h.next ≤ h'.next ∧
  ∀ (E : Env) (N : Nat) (μ : Mu) (a : Act) (w : World) (Q : Exit → Act → World → Prop), St E N μ n ρ h a w → Free μ h.next h'.next →
    (∀ a' w' μ', St E N μ' n ρ' h' a' w' → Ext μ h w μ' h' w' → Q e a' w') → o.wp P a w (wpOps P ops Q is) Q

theorem St.put_same {n : Nat} {ρ : Tmps} {h : H} {a : Act} {w : World} {d : Option Tmp} {p : Option (List Bool)} {v : AV} {v' : Value} (s : St E N μ n ρ h a w) (hd : cDst n d = some p)
    (hv : VRel E μ v v') : St E N μ n (put p v ρ) h (a.put d v') w := ⟨s.tmps.put hd hv, by rw [put_defers]; exact s.defers, s.rel, s.low⟩
theorem St.put_ext {n : Nat} {ρ : Tmps} {h h' : H} {a : Act} {w w' : World} {d : Option Tmp} {p : Option (List Bool)} {v : AV} {v' : Value} (s : St E N μ n ρ h a w) (hd : cDst n d = some p)
    (hv : VRel E μ' v v') (r : Rel E N μ' h' w') (e : Ext μ h w μ' h' w') : St E N μ' n (put p v ρ) h' (a.put d v') w' :=
  ⟨(s.tmps.mono e.le).put hd hv, by rw [put_defers]; exact s.defers, r, Nat.le_trans s.low e.size⟩

theorem consK_ok {n : Nat} {o : Oper} {ops : Array Oper} {is : List Nat} {p : Option (List Bool)} {k : OpK} {rest : Clo} (hd : cDst n o.dst = some p) (hk : KOk P o k) (hn : KNext k)
    (hrest : ROk P n ops is rest) : OneOk P n o ops is (consK p k rest) := by
  intro cl hcl ρ h e ρ' h' ho
  cases k with
  | pure f =>
    simp only [consK, consPure] at ho
    cases hf : f ρ with
    | none => rw [hf] at ho; cases ho
    | some v =>
      rw [hf] at ho
      obtain ⟨h1, h2⟩ := hrest cl hcl _ _ _ _ _ ho
      exact ⟨h1, fun E N μ a w Q s hfree hQ => pure_wp hk (fun x _ => related_of s.tmps x) hf fun v' hv => h2 E N μ _ _ Q (s.put_same hd hv) hfree hQ⟩
  | read f =>
    simp only [consK, consRead] at ho
    cases hf : f ρ h with
    | none => rw [hf] at ho; cases ho
    | some v =>
      rw [hf] at ho
      obtain ⟨h1, h2⟩ := hrest cl hcl _ _ _ _ _ ho
      exact ⟨h1, fun E N μ a w Q s hfree hQ => read_wp hk (fun x _ => related_of s.tmps x) s.rel hf fun v' hv => h2 E N μ _ _ Q (s.put_same hd hv) hfree hQ⟩
  | new f =>
    simp only [consK, consNew] at ho
    cases hf : f ρ with
    | none => rw [hf] at ho; cases ho
    | some nb =>
      rw [hf] at ho
      obtain ⟨h1, h2⟩ := hrest cl hcl _ _ _ _ _ ho
      have h1' : h.next + 1 ≤ h'.next := h1
      refine ⟨by omega, fun E N μ a w Q s hfree hQ => new_wp hk (fun x _ => related_of s.tmps x) hf fun v' w' obj m hp hb hv => ?_⟩
      obtain ⟨r, ex⟩ := newObj_ok s.rel (hfree.first h1') s.low (hb h.next) hp
      refine h2 E N _ _ _ Q (s.put_ext hd (hv _ _ ex.le (if_pos rfl)) r ex) (hfree.after ex) fun a' w' μ' s' ex' => hQ a' w' μ' s' (ex.trans ex')
  | loud f =>
    simp only [consK, consLoud] at ho
    split at ho
    · rename_i v hm hf
      obtain ⟨h1, h2⟩ := hrest cl hcl _ _ _ _ _ ho
      have hnx := loud_next hcl hn hf
      refine ⟨by omega, fun E N μ a w Q s hfree hQ => loud_wp hcl hk (fun x _ => related_of s.tmps x) s.rel s.low hf (hfree.first h1) fun v' w' μ' hv r ex => ?_⟩
      exact h2 E N _ _ _ Q (s.put_ext hd hv r ex) (hfree.after ex) fun a' w' μ' s' ex' => hQ a' w' μ' s' (ex.trans ex')
    · cases ho
  | bad m => cases ho

theorem cOps_ok (n : Nat) (ops : Array Oper) : ∀ (os : List Oper) (i : Nat), (∀ j, os[j]? = ops[i + j]?) → ROk P n ops (List.range' i os.length) (cOps P n ops os)
  | [], i, _ => by
    intro cl _ ρ h e ρ' h' ho
    simp only [cOps, endF, out] at ho
    cases ho
    exact ⟨Nat.le_refl _, fun E N μ a w Q s _ hQ => hQ _ _ _ s (Ext.refl _ _ _)⟩
  | o :: os, i, hs => by
    have hi : ops[i]? = some o := by have := hs 0; simpa using this.symm
    have hrest := cOps_ok n ops os (i + 1) (fun j => by have := hs (j + 1); rw [List.getElem?_cons_succ] at this; rw [this]; congr 1; omega)
    unfold cOps
    split
    · rename_i d hd hg
      intro cl hcl ρ h e ρ' h' ho
      obtain ⟨h1, h2⟩ := consK_ok hd (cOp_ok o) (cOp_next o.op) hrest cl hcl _ _ _ _ _ ho
      refine ⟨h1, fun E N μ a w Q s hfree hQ => ?_⟩
      rw [List.length_cons, List.range'_succ]
      simp only [wpOps, hi]
      rw [if_pos (want_none hg)]
      exact .inl (h2 E N μ a w Q s hfree hQ)
    · rename_i d p wn hd hg
      intro cl hcl ρ h e ρ' h' ho
      unfold guardF at ho
      simp only at ho
      split at ho
      · rename_i hw
        obtain ⟨h1, h2⟩ := consK_ok hd (cOp_ok o) (cOp_next o.op) hrest cl hcl _ _ _ _ _ ho
        refine ⟨h1, fun E N μ a w Q s hfree hQ => ?_⟩
        rw [List.length_cons, List.range'_succ]
        simp only [wpOps, hi]
        rw [if_pos (want_ok s.tmps hg hw)]
        exact .inl (h2 E N μ a w Q s hfree hQ)
      · rename_i hw
        obtain ⟨h1, h2⟩ := hrest cl hcl _ _ _ _ _ ho
        refine ⟨h1, fun E N μ a w Q s hfree hQ => ?_⟩
        rw [List.length_cons, List.range'_succ]
        simp only [wpOps, hi]
        rw [want_ok s.tmps hg hw, if_neg (by simp)]
        exact h2 E N μ _ w Q (s.put_same hd undef_rel) hfree hQ
      · cases ho
    · exact bad_rok n ops _ _

theorem region_ok (n : Nat) (id : Nat) (ops : Array Oper) : COk P n (.region id ops false) (cOps P n ops ops.toList) := by
  intro cl hcl ρ h e ρ' h' ho
  have hr := cOps_ok (P := P) n ops ops.toList 0 (fun j => by simp)
  obtain ⟨h1, h2⟩ := hr cl hcl _ _ _ _ _ ho
  refine ⟨h1, fun E N μ a w Q s hfree hQ => wp_region ?_⟩
  have := h2 E N μ a w Q s hfree hQ
  rwa [Array.length_toList, ← List.range_eq_range'] at this
end Go.Ax
