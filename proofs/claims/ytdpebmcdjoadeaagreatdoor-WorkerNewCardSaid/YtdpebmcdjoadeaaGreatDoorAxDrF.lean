/- Helper text: regions that draw their order. Sixth part: one operation in any order. -/
import Derived.Test.YtdpebmcdjoadeaaGreatDoorAxDrE
namespace Go.Ax
variable {E : Env} {N : Nat} {μ0 μ μ' : Mu} {P : Program} {w0 : World}
variable {n : Nat} {ops : Array Oper} {l : List DOp} {mask : Nat → Nat} {cl : CallFn} {recs : List Rec} {vers : List H} {ρ : Nat → Tmps} {h : Nat → H} {v : Nat → AV}

theorem Inv.fresh' {S : Nat → Bool} {m : Nat} {a : Act} {w : World} (I : Inv E N P n ops l mask vers ρ h v μ0 w0 S m μ a w) : Fresh (memV vers m) := I.rel.fresh

section
variable {S : Nat → Bool} {m : Nat} {a : Act} {w : World} {i : Nat} {o : Oper}

theorem At.ilt (A : At E N P n ops l mask cl recs vers ρ h v μ0 w0 S m μ a w i o) : i < l.length := by rw [A.c.plan.len]; exact (Array.getElem?_eq_some_iff.mp A.hi).1
theorem At.dop (A : At E N P n ops l mask cl recs vers ρ h v μ0 w0 S m μ a w i o) : ∃ d : DOp, l[i]? = some d ∧ cDst n o.dst = some d.dst ∧ cGuard ops o.guard = some d.guard ∧ d.op = cOp P o.op := by
  obtain ⟨d, h1, h2, h3, h4, _⟩ := A.c.plan.op i o A.hi
  exact ⟨d, h1, h2, h3, h4⟩

/-- an operation that is not loud -/
theorem At.louds' (A : At E N P n ops l mask cl recs vers ρ h v μ0 w0 S m μ a w i o) (hl : isLoud (cOp P o.op) = false) : ∀ (j : Nat) (o' : Oper), ops[j]? = some o' → isLoud (cOp P o'.op) = true → (also i S j = true ↔ ownD l j < m) := by
  intro j o' hj hlj
  have hne : j ≠ i := fun e => by subst e; rw [A.hi] at hj; cases hj; rw [hl] at hlj; cases hlj
  rw [also_ne hne]
  exact A.I.louds j o' hj hlj

/-- an operation that neither makes nor writes memory -/
theorem At.same (A : At E N P n ops l mask cl recs vers ρ h v μ0 w0 S m μ a w i o) (hl : isLoud (cOp P o.op) = false) (hno : ∀ b k, ¬ NewAt l ρ h i b k) {u' : Value} (hv : VRel E μ (v i) u') :
    Inv E N P n ops l mask vers ρ h v μ0 w0 (also i S) m μ (a.put o.dst u') w := by
  obtain ⟨t1, t2⟩ := A.slots' (fun _ _ e => e) hv
  have I := A.I
  exact {
    closed := A.closed', louds := A.louds' hl, top := I.top, tsize := t1, slots := t2, defers := by rw [put_defers]; exact I.defers, rel := I.rel, fresh := I.fresh, low := I.low
    pend := fun j b k nw hj hm => by
      rcases also_cases hj with rfl | hj
      · exact (hno b k nw).elim
      · exact I.pend j b k nw hj hm
    unmade := fun j b k nw hj => I.unmade j b k nw (also_false hj).2
    dom := fun b x e => by
      rcases I.dom b x e with g | g | ⟨j, k, g1, g2, g3⟩
      · exact .inl g
      · exact .inr (.inl g)
      · exact .inr (.inr ⟨j, k, g1, also_old g2, g3⟩)
    le := I.le, new := I.new, absent := I.absent, kept := I.kept, size := I.size, os := I.os, tape := I.tape, output := I.output }

theorem At.later (A : At E N P n ops l mask cl recs vers ρ h v μ0 w0 S m μ a w i o) (hf : isFirst (cOp P o.op) = true) : m ≤ ownD l i := by
  rcases Nat.lt_or_ge (ownD l i) m with hlt | hge
  · exfalso
    have htop : m - 1 < ownD l l.length := Nat.lt_of_lt_of_le (by omega) A.I.top
    obtain ⟨j, d, j1, j2, j3, j4⟩ := own_find (Nat.le_refl l.length) htop
    have hops : j < ops.size := by rw [← A.c.plan.len]; exact j1
    have hg := Array.getElem?_eq_getElem hops
    obtain ⟨d', k1, _, _, k2, _⟩ := A.c.plan.op j _ hg
    rw [j2] at k1; cases k1
    have hlj : isLoud (cOp P ops[j].op) = true := by rw [← k2]; exact j3
    have hSj : S j = true := (A.I.louds j _ hg hlj).mpr (by omega)
    rcases Nat.lt_trichotomy j i with hji | hji | hji
    · have := own_lt j2 j3 hji (Nat.le_of_lt A.ilt)
      omega
    · rw [hji, A.hS] at hSj; cases hSj
    · exact A.after j hSj (A.c.plan.ord i j o _ A.hi hg hji (.inr (.inr (.inr ⟨hf, hlj⟩))))
  · exact hge

theorem At.newId (A : At E N P n ops l mask cl recs vers ρ h v μ0 w0 S m μ a w i o) {j b k b' k'} (hne : j ≠ i) (nw : NewAt l ρ h i b k) (nj : NewAt l ρ h j b' k') : b' ≠ b := by
  have h1 := nw.id
  have h2 := nj.id
  have hn1 : (h (i + 1)).next = (h i).next + 1 := by rw [nw.blk]; rfl
  have hn2 : (h (j + 1)).next = (h j).next + 1 := by rw [nj.blk]; rfl
  rcases Nat.lt_or_gt_of_ne hne with hlt | hlt
  · have := A.c.mono (i := j + 1) (j := i) hlt (Nat.le_of_lt A.ilt)
    omega
  · have := A.c.mono (i := i + 1) (j := j) hlt (Nat.le_of_lt nj.lt)
    omega

/-- an operation that makes a block -/
theorem At.make (A : At E N P n ops l mask cl recs vers ρ h v μ0 w0 S m μ a w i o) (hl : isLoud (cOp P o.op) = false) (hf : isFirst (cOp P o.op) = true) {b : Nat} {k : Blk} (nw : NewAt l ρ h i b k) {obj : Obj} {nn : Nat} {w' : World} {u' : Value} (hp : Pushed w obj w')
    (hb : BRel E μ 0 nn k obj) (hv : ∀ μ', Mu.le μ μ' → μ' b = some ⟨w.heap.size, 0, nn⟩ → VRel E μ' (v i) u') :
    Inv E N P n ops l mask vers ρ h v μ0 w0 (also i S) m (Mu.put μ b ⟨w.heap.size, 0, nn⟩) (a.put o.dst u') w' := by
  have I := A.I
  have hnone : μ b = none := I.unmade i b k nw A.hS
  have hle := Mu.le_put (x := ⟨w.heap.size, 0, nn⟩) hnone
  obtain ⟨t1, t2⟩ := A.slots' hle (hv _ hle (Mu.put_self _ _ _))
  have hold : ∀ B, B < w.heap.size → w'.heap[B]? = w.heap[B]? := fun B hB => by
    rw [hp.heap, Array.getElem?_push, if_neg (by omega)]
  have hnew : w'.heap[w.heap.size]? = some obj := by rw [hp.heap]; simp
  have hsz : w'.heap.size = w.heap.size + 1 := by rw [hp.heap]; simp
  have hmu : ∀ c y, Mu.put μ b ⟨w.heap.size, 0, nn⟩ c = some y → (c = b ∧ y = ⟨w.heap.size, 0, nn⟩) ∨ (c ≠ b ∧ μ c = some y) := by
    intro c y e
    by_cases hc : c = b
    · subst hc; rw [Mu.put_self] at e; cases e; exact .inl ⟨rfl, rfl⟩
    · rw [Mu.put_ne _ _ hc] at e; exact .inr ⟨hc, e⟩
  obtain ⟨d, d1, d2, d3, d4⟩ := A.dop
  have hown1 : ownD l (i + 1) = ownD l i := by rw [ownD_succ d1, d4, hl]; simp
  have hlat := A.later hf
  have hi1 : i + 1 ≤ l.length := A.ilt
  have hnx : (h (i + 1)).next = (h i).next + 1 := by rw [nw.blk]; rfl
  have hbid := nw.id
  -- what the version knows of b
  have hver : ∀ k', T.get (memV vers m).heap b = some k' → k' = k := by
    intro k' e
    rcases Nat.lt_or_ge m (ownD l i) with hlt | hge
    · obtain ⟨j, dj, j1, j2, j3, j4⟩ := own_find (Nat.le_of_lt A.ilt) hlt
      have h1 : memV vers m = h j := by rw [← j4]; exact A.c.trace.verAt j2 j3
      have h2 := A.c.mono (Nat.le_of_lt j1) (Nat.le_of_lt A.ilt)
      have h3 := I.fresh' b (by rw [h1]; omega)
      rw [h3] at e; cases e
    · have : m = ownD l i := by omega
      subst this
      exact A.c.trace.newVer A.c.calls A.c.next nw hown1 e
  exact {
    closed := A.closed', louds := A.louds' hl, top := I.top, tsize := t1, slots := t2, defers := by rw [put_defers]; exact I.defers
    rel := {
      own := fun c y e => by
        rcases hmu c y e with ⟨_, rfl⟩ | ⟨_, e⟩
        · exact ⟨I.low, by simp only; omega⟩
        · have := I.rel.own c y e; omega
      blk := fun c y k' e ek => by
        rcases hmu c y e with ⟨rfl, rfl⟩ | ⟨hne, e⟩
        · rw [hver k' ek]; exact ⟨obj, hnew, hb.mono hle⟩
        · obtain ⟨ob, h1, h2⟩ := I.rel.blk c y k' e ek
          exact ⟨ob, by rw [hold _ (I.rel.own c y e).2]; exact h1, h2.mono hle⟩
      shares := fun c c' y y' sz sz' cs cs' root root' hne e e' hB ek ek' => by
        rcases hmu c y e with ⟨rfl, rfl⟩ | ⟨h1, e1⟩
        · rcases hmu c' y' e' with ⟨rfl, rfl⟩ | ⟨h2, e2⟩
          · exact absurd rfl hne
          · have := (I.rel.own c' y' e2).2; simp only at hB; omega
        · rcases hmu c' y' e' with ⟨rfl, rfl⟩ | ⟨h2, e2⟩
          · have := (I.rel.own c y e1).2; simp only at hB; omega
          · exact I.rel.shares c c' y y' sz sz' cs cs' root root' hne e1 e2 hB ek ek'
      maps := fun c c' y y' es cl es' cl' e e' hB ek ek' => by
        rcases hmu c y e with ⟨rfl, rfl⟩ | ⟨h1, e1⟩
        · rcases hmu c' y' e' with ⟨rfl, rfl⟩ | ⟨h2, e2⟩
          · rfl
          · have := (I.rel.own c' y' e2).2; simp only at hB; omega
        · rcases hmu c' y' e' with ⟨rfl, rfl⟩ | ⟨h2, e2⟩
          · have := (I.rel.own c y e1).2; simp only at hB; omega
          · exact I.rel.maps c c' y y' es cl es' cl' e1 e2 hB ek ek'
      fresh := I.rel.fresh }
    fresh := I.fresh
    low := by have := I.low; omega
    pend := fun j c k' nj hj hm => by
      by_cases hji : j = i
      · subst hji
        obtain ⟨rfl, rfl⟩ := nw.unique nj
        refine ⟨_, _, obj, Mu.put_self _ _ _, hnew, hb.mono hle, fun c' y' e hB => ?_⟩
        rcases hmu c' y' e with ⟨rfl, _⟩ | ⟨_, e⟩
        · rfl
        · have := (I.rel.own c' y' e).2; omega
      · rw [also_ne hji] at hj
        obtain ⟨B, n2, ob, g1, g2, g3, g4⟩ := I.pend j c k' nj hj hm
        have hB := (I.rel.own _ _ g1).2
        refine ⟨B, n2, ob, hle _ _ g1, by rw [hold _ hB]; exact g2, g3.mono hle, fun c' y' e hB' => ?_⟩
        rcases hmu c' y' e with ⟨rfl, rfl⟩ | ⟨_, e⟩
        · simp only at hB' hB; omega
        · exact g4 c' y' e hB'
    unmade := fun j c k' nj hj => by
      obtain ⟨h1, h2⟩ := also_false hj
      rw [Mu.put_ne _ _ (A.newId h1 nw nj)]
      exact I.unmade j c k' nj h2
    dom := fun c y e => by
      rcases hmu c y e with ⟨rfl, rfl⟩ | ⟨_, e⟩
      · rcases Nat.lt_or_ge m (ownD l i) with hlt | hge
        · exact .inr (.inr ⟨i, k, nw, also_self i S, hlt⟩)
        · have hm : m = ownD l (i + 1) := by omega
          have h1 := A.c.trace.verNext (i + 1) hi1
          rw [← hm] at h1
          have h2 := A.c.mono (Nat.zero_le i) (Nat.le_of_lt A.ilt)
          exact .inr (.inl ⟨by omega, by omega⟩)
      · rcases I.dom c y e with g | g | ⟨j, k', g1, g2, g3⟩
        · exact .inl g
        · exact .inr (.inl g)
        · exact .inr (.inr ⟨j, k', g1, also_old g2, g3⟩)
    le := fun c y e => hle _ _ (I.le c y e)
    new := fun c y e e0 => by
      rcases hmu c y e with ⟨rfl, rfl⟩ | ⟨_, e⟩
      · exact .inl I.size
      · exact I.new c y e e0
    absent := I.absent
    kept := fun B hB hk => by rw [hold B (Nat.lt_of_lt_of_le hB I.size)]; exact I.kept B hB hk
    size := by have := I.size; omega
    os := hp.os.trans I.os, tape := hp.tape.trans I.tape, output := hp.output.trans I.output }
end
end Go.Ax
