/- Helper text: regions that draw their order. Fifth part: what holds while the region runs in any order. -/
import Derived.Test.YtdpebmcdjoadeaaGreatDoorAxDrD
namespace Go.Ax
variable {E : Env} {N : Nat} {μ0 μ μ' : Mu} {P : Program} {w0 : World}
variable {n : Nat} {ops : Array Oper} {l : List DOp} {mask : Nat → Nat} {cl : CallFn} {recs : List Rec} {vers : List H} {ρ : Nat → Tmps} {h : Nat → H} {v : Nat → AV}

structure Ctx (P : Program) (n : Nat) (ops : Array Oper) (l : List DOp) (mask : Nat → Nat) (cl : CallFn) (recs : List Rec) (vers : List H) (ρ : Nat → Tmps) (h : Nat → H) (v : Nat → AV) : Prop where
  plan : Plan P n ops l mask
  trace : Trace cl l recs vers ρ h v
  calls : ClOk P cl
  checks : checkRecs vers recs = true

theorem Ctx.next (c : Ctx P n ops l mask cl recs vers ρ h v) : ∀ d, d ∈ l → KNext d.op := by
  intro d hd
  obtain ⟨i, hlt, rfl⟩ := List.getElem_of_mem hd
  have hops : i < ops.size := by rw [← c.plan.len]; exact hlt
  obtain ⟨d', h1, _, _, h2, _⟩ := c.plan.op i _ (Array.getElem?_eq_getElem hops)
  rw [List.getElem?_eq_getElem hlt] at h1; cases h1
  rw [h2]; exact cOp_next _
theorem Ctx.mono (c : Ctx P n ops l mask cl recs vers ρ h v) {i j : Nat} (hij : i ≤ j) (hj : j ≤ l.length) : (h i).next ≤ (h j).next := c.trace.next c.calls c.next hij hj

/-- what holds when the operations of S are done, m loud ones among them -/
structure Inv (E : Env) (N : Nat) (P : Program) (n : Nat) (ops : Array Oper) (l : List DOp) (mask : Nat → Nat) (vers : List H) (ρ : Nat → Tmps) (h : Nat → H) (v : Nat → AV) (μ0 : Mu) (w0 : World)
    (S : Nat → Bool) (m : Nat) (μ : Mu) (a : Act) (w : World) : Prop where
  closed : ∀ i j, S i = true → bitOn (mask i) j = true → S j = true
  louds : ∀ (i : Nat) (o : Oper), ops[i]? = some o → isLoud (cOp P o.op) = true → (S i = true ↔ ownD l i < m)
  top : m ≤ ownD l l.length
  tsize : n ≤ a.tmps.size
  slots : ∀ t u, slotS ops v (ρ 0) S l.length t = some u → ∃ u', a.tmps[t]? = some u' ∧ VRel E μ u u'
  defers : a.defers = []
  rel : Rel E N μ (memV vers m) w
  fresh : ∀ i, i ≤ l.length → ownD l i = m → Fresh (h i)
  low : N ≤ w.heap.size
  pend : ∀ i b k, NewAt l ρ h i b k → S i = true → m < ownD l i → ∃ B nn obj, μ b = some ⟨B, 0, nn⟩ ∧ w.heap[B]? = some obj ∧ BRel E μ 0 nn k obj ∧ ∀ b' x', μ b' = some x' → x'.B = B → b' = b
  unmade : ∀ i b k, NewAt l ρ h i b k → S i = false → μ b = none
  dom : ∀ b x, μ b = some x → μ0 b = some x ∨ ((h 0).next ≤ b ∧ b < (memV vers m).next) ∨ ∃ i k, NewAt l ρ h i b k ∧ S i = true ∧ m < ownD l i
  le : Mu.le μ0 μ
  new : ∀ b x, μ b = some x → μ0 b = none → w0.heap.size ≤ x.B ∨ ∃ b0 x0, μ0 b0 = some x0 ∧ x0.B = x.B ∧ T.get (h 0).heap b0 ≠ none
  absent : ∀ b, T.get (h 0).heap b = none → (b < (h 0).next ∨ (memV vers m).next ≤ b) → T.get (memV vers m).heap b = none
  kept : ∀ B, B < w0.heap.size → (∀ b x, μ0 b = some x → x.B = B → T.get (h 0).heap b = none) → w.heap[B]? = w0.heap[B]?
  size : w0.heap.size ≤ w.heap.size
  os : w.os = w0.os
  tape : w.tape = w0.tape
  output : w.output = w0.output

def also (i : Nat) (S : Nat → Bool) : Nat → Bool := fun k => k == i || S k
theorem also_self (i : Nat) (S : Nat → Bool) : also i S i = true := by simp [also]
theorem also_old {i k : Nat} {S : Nat → Bool} (h : S k = true) : also i S k = true := by simp [also, h]
theorem also_ne {i k : Nat} {S : Nat → Bool} (h : k ≠ i) : also i S k = S k := by simp [also, h]
theorem also_cases {i k : Nat} {S : Nat → Bool} (h : also i S k = true) : k = i ∨ S k = true := by simpa [also] using h
theorem also_false {i k : Nat} {S : Nat → Bool} (h : also i S k = false) : k ≠ i ∧ S k = false := by simpa [also] using h

/-- the operation that is next -/
structure At (E : Env) (N : Nat) (P : Program) (n : Nat) (ops : Array Oper) (l : List DOp) (mask : Nat → Nat) (cl : CallFn) (recs : List Rec) (vers : List H) (ρ : Nat → Tmps) (h : Nat → H) (v : Nat → AV) (μ0 : Mu) (w0 : World)
    (S : Nat → Bool) (m : Nat) (μ : Mu) (a : Act) (w : World) (i : Nat) (o : Oper) : Prop where
  c : Ctx P n ops l mask cl recs vers ρ h v
  I : Inv E N P n ops l mask vers ρ h v μ0 w0 S m μ a w
  hi : ops[i]? = some o
  hS : S i = false
  hr : ∀ e, e ∈ o.after.toList → Region.binds .any e = true → S e.on = true

section
variable {S : Nat → Bool} {m : Nat} {a : Act} {w : World} {i : Nat} {o : Oper}

theorem At.ready (A : At E N P n ops l mask cl recs vers ρ h v μ0 w0 S m μ a w i o) : ∀ j, bitOn (mask i) j = true → S j = true := by
  intro j hj
  obtain ⟨e, he, hb, hx⟩ := (A.c.plan.bits i o A.hi j).mp hj
  rcases hx with rfl | hx
  · exact A.hr e he hb
  · exact A.I.closed e.on j (A.hr e he hb) hx
theorem At.closed' (A : At E N P n ops l mask cl recs vers ρ h v μ0 w0 S m μ a w i o) : ∀ x y, also i S x = true → bitOn (mask x) y = true → also i S y = true := by
  intro x y hx hy
  rcases also_cases hx with rfl | hx
  · exact also_old (A.ready y hy)
  · exact also_old (A.I.closed x y hx hy)
theorem At.after (A : At E N P n ops l mask cl recs vers ρ h v μ0 w0 S m μ a w i o) : ∀ j, S j = true → bitOn (mask j) i = true → False := by
  intro j hj hb
  have := A.I.closed j i hj hb
  rw [A.hS] at this; cases this
theorem At.look (A : At E N P n ops l mask cl recs vers ρ h v μ0 w0 S m μ a w i o) {t : Nat} (ht : t ∈ namesOf ops o) : slotS ops v (ρ 0) S l.length t = T.getF 12 (ρ i) t := by
  have hlt : i < ops.size := (Array.getElem?_eq_some_iff.mp A.hi).1
  have hle : i ≤ l.length := by rw [A.c.plan.len]; omega
  rw [slot_all A.c.plan A.c.trace t i hle]
  rw [slot_after (i := i) l.length hle, slot_before i]
  · intro j hj hd
    have hjlt : j < ops.size := by omega
    have hg := Array.getElem?_eq_getElem hjlt
    have hd' : ops[j].dst = some t := by simpa [dstOf, hg] using hd
    refine A.ready j (A.c.plan.ord j i _ o hg A.hi hj (.inl ?_))
    rw [hd']; exact memB_mem ht
  · intro j hj1 hj2 hd
    by_cases e : j = i
    · subst e; exact A.hS
    · have hjlt : j < ops.size := by rw [← A.c.plan.len]; exact hj2
      have hg := Array.getElem?_eq_getElem hjlt
      have hd' : ops[j].dst = some t := by simpa [dstOf, hg] using hd
      cases hSj : S j with
      | false => rfl
      | true =>
        refine (A.after j hSj (A.c.plan.ord i j o _ A.hi hg (by omega) (.inr (.inl ?_)))).elim
        rw [hd']; exact memB_mem ht
theorem At.look' (A : At E N P n ops l mask cl recs vers ρ h v μ0 w0 S m μ a w i o) {t : Nat} {u : AV} (ht : t ∈ namesOf ops o) (hu : T.getF 12 (ρ i) t = some u) : ∃ u', a.tmps[t]? = some u' ∧ VRel E μ u u' :=
  A.I.slots t u (by rw [A.look ht]; exact hu)
theorem At.related (A : At E N P n ops l mask cl recs vers ρ h v μ0 w0 S m μ a w i o) : ∀ x, x ∈ o.op.operands.toList → Related E μ (ρ i) a x := by
  intro x hx
  cases x with
  | const u => exact const_related u _ a
  | func f => exact func_related f _ a
  | global g => intro u hu; simp [cOpd, obad] at hu
  | tmp t =>
    intro u hu
    have hm : ∀ xs : List Operand, Operand.tmp t ∈ xs → t ∈ slotsOf xs := by
      intro xs
      induction xs with
      | nil => intro h; cases h
      | cons y ys ih =>
        intro h
        cases h with
        | head => exact List.mem_cons_self
        | tail _ h =>
          have := ih h
          cases y with
          | tmp s => exact List.mem_cons_of_mem _ this
          | const _ => exact this
          | global _ => exact this
          | func _ => exact this
    obtain ⟨u', h1, h2⟩ := A.look' (List.mem_append_right _ (hm _ hx)) (tmp_some hu).2
    have : a.eval (.tmp t) = u' := by simp [Act.eval, Array.getD_eq_getD_getElem?, h1]
    rw [this]; exact h2
theorem At.wanted (A : At E N P n ops l mask cl recs vers ρ h v μ0 w0 S m μ a w i o) {p : List Bool} {q b : Bool} (hg : cGuard ops o.guard = some (some (p, q))) (hw : wantA (ρ i) p q = some b) : Region.wanted o (yielded ops a.tmps) = b :=
  want_slot (fun _ _ ht hu => A.look' (List.mem_append_left _ ht) hu) hg hw

/-- slots behind the operation -/
theorem At.slots' (A : At E N P n ops l mask cl recs vers ρ h v μ0 w0 S m μ a w i o) {u' : Value} (hle : Mu.le μ μ') (hv : VRel E μ' (v i) u') : n ≤ (a.put o.dst u').tmps.size ∧
    ∀ t u, slotS ops v (ρ 0) (also i S) l.length t = some u → ∃ x, (a.put o.dst u').tmps[t]? = some x ∧ VRel E μ' u x := by
  have hlt : i < ops.size := (Array.getElem?_eq_some_iff.mp A.hi).1
  obtain ⟨d, h1, h2, _⟩ := A.c.plan.op i o A.hi
  have hdst : dstOf ops i = o.dst := by simp [dstOf, A.hi]
  have hother : ∀ t u, dstOf ops i ≠ some t → slotS ops v (ρ 0) (also i S) l.length t = some u → ∃ x, a.tmps[t]? = some x ∧ VRel E μ' u x := by
    intro t u hne e
    unfold also at e
    rw [slot_other hne] at e
    obtain ⟨x, g1, g2⟩ := A.I.slots t u e
    exact ⟨x, g1, g2.mono hle⟩
  rcases dst_cases h2 with ⟨e1, e2⟩ | ⟨s, e1, e2, e3, e4⟩
  · rw [e1] at hdst ⊢
    exact ⟨A.I.tsize, fun t u e => hother t u (by rw [hdst]; simp) e⟩
  · rw [e1] at hdst ⊢
    refine ⟨by simp only [Act.put, Array.size_setIfInBounds]; exact A.I.tsize, fun t u e => ?_⟩
    by_cases hts : t = s
    · subst hts
      have e' : slotS ops v (ρ 0) (also i S) l.length t = some (v i) := by
        rw [slot_after (i := i + 1) l.length (by rw [A.c.plan.len]; omega)]
        · unfold slotS
          rw [if_pos ⟨also_self i S, hdst⟩]
        · intro j hj1 hj2 hd
          rw [also_ne (by omega)]
          have hjlt : j < ops.size := by rw [← A.c.plan.len]; exact hj2
          have hg := Array.getElem?_eq_getElem hjlt
          have hd' : ops[j].dst = some t := by simpa [dstOf, hg] using hd
          cases hSj : S j with
          | false => rfl
          | true => exact (A.after j hSj (A.c.plan.ord i j o _ A.hi hg (by omega) (.inr (.inr (.inl ⟨t, e1, hd'⟩))))).elim
      rw [e'] at e; cases e
      exact ⟨u', by simp only [Act.put]; rw [Array.getElem?_setIfInBounds_self, if_pos (Nat.lt_of_lt_of_le e2 A.I.tsize)], hv⟩
    · obtain ⟨x, g1, g2⟩ := hother t u (by rw [hdst]; simpa using Ne.symm hts) e
      exact ⟨x, by simp only [Act.put]; rw [Array.getElem?_setIfInBounds_ne (Ne.symm hts)]; exact g1, g2⟩
end
end Go.Ax
