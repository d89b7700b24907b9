/- Helper text: regions that draw their order. Seventh part: a loud operation in any order. -/
import Derived.Test.YtdpebmcdjoadeaaGreatDoorAxDrF
namespace Go.Ax
variable {E : Env} {N : Nat} {μ0 μ μ' : Mu} {P : Program} {w0 : World}
variable {n : Nat} {ops : Array Oper} {l : List DOp} {mask : Nat → Nat} {cl : CallFn} {recs : List Rec} {vers : List H} {ρ : Nat → Tmps} {h : Nat → H} {v : Nat → AV}

section
variable {S : Nat → Bool} {m : Nat} {a : Act} {w : World} {i : Nat} {o : Oper}

theorem At.turn (A : At E N P n ops l mask cl recs vers ρ h v μ0 w0 S m μ a w i o) (hl : isLoud (cOp P o.op) = true) : ownD l i = m := by
  have hge : m ≤ ownD l i := by
    rcases Nat.lt_or_ge (ownD l i) m with hlt | hge
    · have := (A.I.louds i o A.hi hl).mpr hlt
      rw [A.hS] at this; cases this
    · exact hge
  rcases Nat.lt_or_ge m (ownD l i) with hlt | hle
  · exfalso
    obtain ⟨j, d, j1, j2, j3, j4⟩ := own_find (Nat.le_of_lt A.ilt) hlt
    have hops : j < ops.size := by rw [← A.c.plan.len]; exact Nat.lt_trans j1 A.ilt
    have hg := Array.getElem?_eq_getElem hops
    obtain ⟨d', k1, _, _, k2, _⟩ := A.c.plan.op j _ hg
    rw [j2] at k1; cases k1
    have hlj : isLoud (cOp P ops[j].op) = true := by rw [← k2]; exact j3
    have hfj : isFirst (cOp P ops[j].op) = true := by
      cases hk : cOp P ops[j].op with
      | loud f => rfl
      | _ => rw [hk] at hlj; simp [isLoud] at hlj
    have := A.ready j (A.c.plan.ord j i _ o hg A.hi j1 (.inr (.inr (.inr ⟨hfj, hl⟩))))
    have := (A.I.louds j _ hg hlj).mp this
    omega
  · omega
theorem At.here (A : At E N P n ops l mask cl recs vers ρ h v μ0 w0 S m μ a w i o) (hl : isLoud (cOp P o.op) = true) : memV vers m = h i := by
  obtain ⟨d, d1, d2, d3, d4⟩ := A.dop
  rw [← A.turn hl]
  exact A.c.trace.verAt d1 (by rw [d4]; exact hl)
/-- the numbers that a loud operation may take are free -/
theorem At.free (A : At E N P n ops l mask cl recs vers ρ h v μ0 w0 S m μ a w i o) (hl : isLoud (cOp P o.op) = true) (hfree : Free μ0 (h 0).next (h l.length).next) : Free μ (h i).next (h (i + 1)).next := by
  intro b x e
  have h1 := A.here hl
  have h2 := A.c.mono (Nat.zero_le i) (Nat.le_of_lt A.ilt)
  have h3 := A.c.mono (i := i + 1) (j := l.length) A.ilt (Nat.le_refl _)
  rcases A.I.dom b x e with g | ⟨_, g⟩ | ⟨j, k, g1, g2, g3⟩
  · have := hfree b x g; omega
  · rw [h1] at g; exact .inl g
  · right
    have ht := A.turn hl
    have hji : i < j := by
      rcases Nat.lt_or_ge i j with q | q
      · exact q
      · have := ownD_mono (os := l) q (Nat.le_of_lt A.ilt)
        omega
    have := A.c.mono (i := i + 1) (j := j) hji (Nat.le_of_lt g1.lt)
    rw [g1.id]; exact this

theorem At.loud (A : At E N P n ops l mask cl recs vers ρ h v μ0 w0 S m μ a w i o) (hl : isLoud (cOp P o.op) = true) (hfree : Free μ0 (h 0).next (h l.length).next) {w' : World} {u' : Value} (hv : VRel E μ' (v i) u') (r : Rel E N μ' (h (i + 1)) w')
    (ex : Ext μ (h i) w μ' (h (i + 1)) w') : Inv E N P n ops l mask vers ρ h v μ0 w0 (also i S) (m + 1) μ' (a.put o.dst u') w' := by
  have I := A.I
  obtain ⟨t1, t2⟩ := A.slots' ex.le hv
  obtain ⟨d, d1, d2, d3, d4⟩ := A.dop
  have hld : isLoud d.op = true := by rw [d4]; exact hl
  have hturn := A.turn hl
  have hhere := A.here hl
  have hi1 : i + 1 ≤ l.length := A.ilt
  have hown : ownD l (i + 1) = m + 1 := by rw [ownD_succ d1, hld, hturn]; simp
  have hfi : Fresh (h i) := by rw [← hhere]; exact I.fresh'
  obtain ⟨hsub, hfV, hfs⟩ := A.c.trace.down (i + 1) hi1 r.fresh
  rw [hown] at hsub hfV hfs
  have hup := fun b k => A.c.trace.up b k (i + 1) hi1
  rw [hown] at hup
  have hn0 := A.c.mono (Nat.zero_le i) (Nat.le_of_lt A.ilt)
  have hn1 : (h i).next ≤ (h (i + 1)).next := A.c.mono (Nat.le_succ i) hi1
  have hnL := A.c.mono (i := i + 1) (j := l.length) hi1 (Nat.le_refl _)
  have hnotnew : ∀ b k, ¬ NewAt l ρ h i b k := by
    rintro b k ⟨d', f, nb, g1, _, g3, _⟩
    rw [d1] at g1; cases g1
    rw [g3] at hld; simp [isLoud] at hld
  -- a new block behind
  have hbehind : ∀ j b k, NewAt l ρ h j b k → i < j → (h (i + 1)).next ≤ b := by
    intro j b k nj hij
    have := A.c.mono (i := i + 1) (j := j) hij (Nat.le_of_lt nj.lt)
    rw [nj.id]; exact this
  have hafter : ∀ j, j ≤ l.length → m < ownD l j → i < j := by
    intro j hj hm
    rcases Nat.lt_or_ge i j with q | q
    · exact q
    · have := ownD_mono (os := l) q (Nat.le_of_lt A.ilt)
      omega
  -- a pending block is not touched
  have hpend : ∀ j b k, NewAt l ρ h j b k → S j = true → m < ownD l j → ∃ B nn obj, μ' b = some ⟨B, 0, nn⟩ ∧ w'.heap[B]? = some obj ∧ BRel E μ' 0 nn k obj ∧ ∀ b' x', μ' b' = some x' → x'.B = B → b' = b := by
    intro j b k nj hj hm
    obtain ⟨B, nn, obj, g1, g2, g3, g4⟩ := I.pend j b k nj hj hm
    have hB := (I.rel.own _ _ g1).2
    have hb := hbehind j b k nj (hafter j (Nat.le_of_lt nj.lt) hm)
    have hnone : T.get (h i).heap b = none := hfi b (by omega)
    refine ⟨B, nn, obj, ex.le _ _ g1, ?_, g3.mono ex.le, ?_⟩
    · rw [ex.kept B hB, g2]
      intro b' x' e eB
      rw [g4 b' x' e eB]; exact hnone
    · intro b' x' e eB
      cases h0 : μ b' with
      | some z =>
        have := ex.le _ _ h0
        rw [this] at e; cases e
        exact g4 b' _ h0 eB
      | none =>
        rcases ex.new b' x' e h0 with q | ⟨b0, x0, q1, q2, q3⟩
        · simp only at hB; omega
        · have := g4 b0 x0 q1 (by omega)
          rw [this] at q3; exact absurd hnone q3
  have hunmade : ∀ j b k, NewAt l ρ h j b k → S j = false → μ' b = none := by
    intro j b k nj hj
    have h0 := I.unmade j b k nj hj
    cases e : μ' b with
    | none => rfl
    | some x =>
      exfalso
      rcases ex.dom b x e with q | ⟨q1, q2⟩
      · rw [h0] at q; cases q
      · rcases Nat.lt_trichotomy j i with hji | hji | hji
        · have h1 := A.c.mono (i := j + 1) (j := i) hji (Nat.le_of_lt A.ilt)
          have h2 : (h (j + 1)).next = (h j).next + 1 := by rw [nj.blk]; rfl
          have := nj.id
          omega
        · subst hji; exact hnotnew b k nj
        · have := hbehind j b k nj hji
          omega
  -- what the new version holds
  have hcases : ∀ b x k, μ' b = some x → T.get (memV vers (m + 1)).heap b = some k → T.get (h (i + 1)).heap b = some k ∨
      (∃ obj, w'.heap[x.B]? = some obj ∧ BRel E μ' x.s x.n k obj ∧ ∀ b' x', μ' b' = some x' → x'.B = x.B → b' = b) := by
    intro b x k e ek
    rcases hup b k ek with q | ⟨j, q1, q2, q3⟩
    · exact .inl q
    · cases hSj : S j with
      | false => rw [hunmade j b k q3 hSj] at e; cases e
      | true =>
        obtain ⟨B, nn, obj, g1, g2, g3, g4⟩ := hpend j b k q3 hSj (by omega)
        rw [g1] at e; cases e
        exact .inr ⟨obj, g2, g3, g4⟩
  have hsibs := A.c.trace.sibs (i + 1) hi1
  rw [hown] at hsibs
  have hrel : Rel E N μ' (memV vers (m + 1)) w' := {
    own := r.own
    blk := fun b x k e ek => by
      rcases hcases b x k e ek with q | ⟨obj, q1, q2, _⟩
      · exact r.blk b x k e q
      · exact ⟨obj, q1, q2⟩
    shares := fun b b' x x' sz sz' cs cs' root root' hne e e' hB ek ek' => by
      rcases hcases b x _ e ek with q | ⟨_, _, _, q⟩
      · rcases hcases b' x' _ e' ek' with q' | ⟨_, _, _, q'⟩
        · obtain ⟨h1, h2, ls, h3, h4⟩ := r.shares b b' x x' sz sz' cs cs' root root' hne e e' hB q q'
          exact ⟨h1, h2, ls, by rw [hsibs]; exact h3, h4⟩
        · exact absurd (q' b x e hB) hne
      · exact absurd (q b' x' e' hB.symm).symm hne
    maps := fun b b' x x' es cl es' cl' e e' hB ek ek' => by
      rcases hcases b x _ e ek with q | ⟨_, _, _, q⟩
      · rcases hcases b' x' _ e' ek' with q' | ⟨_, _, _, q'⟩
        · exact r.maps b b' x x' es cl es' cl' e e' hB q q'
        · exact q' b x e hB
      · exact (q b' x' e' hB.symm).symm
    fresh := hfV }
  exact {
    closed := A.closed'
    louds := fun j o' hj hlj => by
      by_cases hji : j = i
      · subst hji; exact ⟨fun _ => by omega, fun _ => also_self _ _⟩
      · rw [also_ne hji, I.louds j o' hj hlj]
        have hops : j < ops.size := (Array.getElem?_eq_some_iff.mp hj).1
        have hjl : j < l.length := by rw [A.c.plan.len]; exact hops
        obtain ⟨d', k1, _, _, k2, _⟩ := A.c.plan.op j _ hj
        have hldj : isLoud d'.op = true := by rw [k2]; exact hlj
        constructor
        · intro q; omega
        · intro q
          rcases Nat.lt_or_gt_of_ne hji with hlt | hlt
          · have := own_lt k1 hldj hlt (Nat.le_of_lt A.ilt)
            omega
          · have := own_lt d1 hld hlt (Nat.le_of_lt hjl)
            omega
    top := by rw [← hown]; exact ownD_mono hi1 (Nat.le_refl _)
    tsize := t1, slots := t2, defers := by rw [put_defers]; exact I.defers
    rel := hrel
    fresh := fun j hj hm => hfs j (hafter j hj (by omega)) hj hm
    low := Nat.le_trans I.low ex.size
    pend := fun j b k nj hj hm => by
      have hji : j ≠ i := fun e => by subst e; exact hnotnew b k nj
      rw [also_ne hji] at hj
      exact hpend j b k nj hj (by omega)
    unmade := fun j b k nj hj => hunmade j b k nj (also_false hj).2
    dom := fun b x e => by
      have hvn := A.c.trace.verNext (i + 1) hi1
      rw [hown] at hvn
      rcases ex.dom b x e with q | ⟨q1, q2⟩
      · rcases I.dom b x q with g | ⟨g1, g2⟩ | ⟨j, k, g1, g2, g3⟩
        · exact .inl g
        · rw [hhere] at g2
          exact .inr (.inl ⟨g1, by omega⟩)
        · rcases Nat.lt_or_ge (m + 1) (ownD l j) with hlt | hge
          · exact .inr (.inr ⟨j, k, g1, also_old g2, hlt⟩)
          · have hj1 : j + 1 ≤ l.length := g1.lt
            have g1' := g1
            obtain ⟨dj, f, nb, k1, _, k3, _⟩ := g1'
            have ho := ownD_succ k1
            rw [k3] at ho
            simp [isLoud] at ho
            have hnv := A.c.trace.verNext (j + 1) hj1
            rw [ho, (by omega : ownD l j = m + 1)] at hnv
            have hb := hbehind j b k g1 (hafter j (by omega) g3)
            have hnj : (h (j + 1)).next = (h j).next + 1 := by rw [g1.blk]; rfl
            have := g1.id
            exact .inr (.inl ⟨by omega, by omega⟩)
      · exact .inr (.inl ⟨by omega, by omega⟩)
    le := fun b x e => ex.le _ _ (I.le b x e)
    new := fun b x e e0 => by
      cases h1 : μ b with
      | some z =>
        have := ex.le _ _ h1
        rw [this] at e; cases e
        exact I.new b _ h1 e0
      | none =>
        rcases ex.new b x e h1 with q | ⟨b0, x0, q1, q2, q3⟩
        · exact .inl (Nat.le_trans I.size q)
        · cases h2 : μ0 b0 with
          | some z =>
            have := I.le _ _ h2
            rw [this] at q1; cases q1
            refine .inr ⟨b0, _, h2, q2, fun hn => q3 ?_⟩
            rw [← hhere]
            refine I.absent b0 hn ?_
            have := hfree b0 _ h2
            rw [hhere]; omega
          | none =>
            rcases I.new b0 x0 q1 h2 with g | ⟨b1, x1, g1, g2, g3⟩
            · exact .inl (by omega)
            · exact .inr ⟨b1, x1, g1, by omega, g3⟩
    absent := fun b e hb => by
      rcases hb with hb | hb
      · have h1 := I.absent b e (.inl hb)
        rw [hhere] at h1
        have h2 := ex.absent b h1 (.inl (by omega))
        cases hk : T.get (memV vers (m + 1)).heap b with
        | none => rfl
        | some k =>
          rcases hup b k hk with q | ⟨j, q1, q2, q3⟩
          · rw [h2] at q; cases q
          · have := hbehind j b k q3 (by omega)
            omega
      · exact hfV b hb
    kept := fun B hB hk => by
      rw [ex.kept B (Nat.lt_of_lt_of_le hB I.size), I.kept B hB hk]
      intro b x e eB
      rw [← hhere]
      cases h0 : μ0 b with
      | some z =>
        have := I.le _ _ h0
        rw [this] at e; cases e
        refine I.absent b (hk b _ h0 eB) ?_
        have := hfree b _ h0
        rw [hhere]; omega
      | none =>
        rcases I.new b x e h0 with q | ⟨b0, x0, q1, q2, q3⟩
        · omega
        · exact absurd (hk b0 x0 q1 (by omega)) q3
    size := Nat.le_trans I.size ex.size
    os := ex.os.trans I.os, tape := ex.tape.trans I.tape, output := ex.output.trans I.output }
end
end Go.Ax
