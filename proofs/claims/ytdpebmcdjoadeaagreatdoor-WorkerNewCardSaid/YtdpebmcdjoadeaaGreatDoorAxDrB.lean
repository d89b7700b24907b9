/- Helper text: regions that draw their order. Second part: memory along the run in the order of the text. -/
import Derived.Test.YtdpebmcdjoadeaaGreatDoorAxDrA
namespace Go.Ax
variable {E : Env} {N : Nat} {μ μ' : Mu} {P : Program}

def Fresh (h : H) : Prop := ∀ b, h.next ≤ b → T.get h.heap b = none
structure Sub (h h' : H) : Prop where
  get : ∀ b k, T.get h.heap b = some k → T.get h'.heap b = some k
  sibs : h'.sibs = h.sibs
  next : h.next ≤ h'.next
theorem Sub.refl (h : H) : Sub h h := ⟨fun _ _ e => e, rfl, Nat.le_refl _⟩
theorem Sub.trans {a b c : H} (x : Sub a b) (y : Sub b c) : Sub a c := ⟨fun i k e => y.get i k (x.get i k e), y.sibs.trans x.sibs, Nat.le_trans x.next y.next⟩
theorem Sub.new {h : H} (f : Fresh h) (k : Blk) : Sub h (newObj k h) := by
  refine ⟨fun b c e => ?_, rfl, Nat.le_succ _⟩
  have : b ≠ h.next := fun hb => by rw [f b (by omega)] at e; cases e
  show T.get (T.set k h.heap h.next) b = some c
  rw [T.get_set_ne _ _ this]; exact e
theorem Fresh.new {h : H} (f : Fresh h) (k : Blk) : Fresh (newObj k h) := by
  intro b hb
  have hb : h.next + 1 ≤ b := hb
  show T.get (T.set k h.heap h.next) b = none
  rw [T.get_set_ne _ _ (by omega)]; exact f b (by omega)

/-- memory that has less is as well related -/
theorem Rel.sub {h h' : H} {w : World} (r : Rel E N μ h' w) (s : Sub h h') (f : Fresh h) : Rel E N μ h w where
  own := r.own
  blk := fun b x k e g => r.blk b x k e (s.get _ _ g)
  shares := fun b b' x x' sz sz' cs cs' root root' hne e e' hB g g' => by
    obtain ⟨h1, h2, l, h3, h4⟩ := r.shares b b' x x' sz sz' cs cs' root root' hne e e' hB (s.get _ _ g) (s.get _ _ g')
    rw [s.sibs] at h3
    exact ⟨h1, h2, l, h3, h4⟩
  maps := fun b b' x x' es c es' c' e e' hB g g' => r.maps b b' x x' es c es' c' e e' hB (s.get _ _ g) (s.get _ _ g')
  fresh := f

theorem ownD_zero (os : List DOp) : ownD os 0 = 0 := by cases os <;> rfl
theorem ownD_succ : ∀ {os : List DOp} {i : Nat} {o : DOp}, os[i]? = some o → ownD os (i + 1) = ownD os i + (if isLoud o.op then 1 else 0)
  | [], i, o, h => by simp at h
  | x :: os, 0, o, h => by
    simp at h; subst h
    show (if isLoud x.op then 1 else 0) + ownD os 0 = 0 + _
    rw [ownD_zero]; omega
  | x :: os, i + 1, o, h => by
    have := ownD_succ (os := os) (i := i) (o := o) (by simpa using h)
    show (if isLoud x.op then 1 else 0) + ownD os (i + 1) = (if isLoud x.op then 1 else 0) + ownD os i + _
    omega
theorem ownD_mono {os : List DOp} {i j : Nat} (h : i ≤ j) (hj : j ≤ os.length) : ownD os i ≤ ownD os j := by
  induction j with
  | zero => have : i = 0 := by omega
            subst this; exact Nat.le_refl _
  | succ j ih =>
    by_cases e : i = j + 1
    · subst e; exact Nat.le_refl _
    · have hlt : j < os.length := by omega
      rw [ownD_succ (List.getElem?_eq_getElem hlt)]
      have := ih (by omega) (by omega)
      omega

theorem own_find {os : List DOp} {m : Nat} : ∀ {i : Nat}, i ≤ os.length → m < ownD os i → ∃ j o, j < i ∧ os[j]? = some o ∧ isLoud o.op = true ∧ ownD os j = m
  | 0, _, h => by rw [ownD_zero] at h; omega
  | i + 1, hi, h => by
    have hg := List.getElem?_eq_getElem (l := os) (i := i) (by omega)
    by_cases e : m < ownD os i
    · obtain ⟨j, o, h1, h2, h3, h4⟩ := own_find (i := i) (by omega) e
      exact ⟨j, o, by omega, h2, h3, h4⟩
    · rw [ownD_succ hg] at h
      cases hl : isLoud os[i].op with
      | false => rw [hl] at h; simp at h; omega
      | true => rw [hl] at h; simp at h; exact ⟨i, _, Nat.lt_succ_self _, hg, hl, by omega⟩
theorem own_lt {os : List DOp} {i j : Nat} {o : DOp} (ho : os[i]? = some o) (hl : isLoud o.op = true) (h : i < j) (hj : j ≤ os.length) : ownD os i < ownD os j := by
  have := ownD_mono (os := os) (i := i + 1) (j := j) h hj
  rw [ownD_succ ho, hl] at this
  simp at this; omega

section
variable {cl : CallFn} {os : List DOp} {recs : List Rec} {vers : List H} {ρ : Nat → Tmps} {h : Nat → H} {v : Nat → AV}

theorem step_next {o : DOp} {ρ : Tmps} {h h1 : H} {v : AV} (hcl : ClOk P cl) (hn : KNext o.op) (s : StepR cl o ρ h v h1) : h.next ≤ h1.next := by
  cases s with
  | skip => exact Nat.le_refl _
  | pure => exact Nat.le_refl _
  | read => exact Nat.le_refl _
  | new => exact Nat.le_succ _
  | loud on ho hf => rw [ho] at hn; exact loud_next hcl hn hf

theorem Trace.next (t : Trace cl os recs vers ρ h v) (hcl : ClOk P cl) (hn : ∀ o, o ∈ os → KNext o.op) {i j : Nat} (hij : i ≤ j) (hj : j ≤ os.length) : (h i).next ≤ (h j).next := by
  induction j with
  | zero => have : i = 0 := by omega
            subst this; exact Nat.le_refl _
  | succ j ih =>
    by_cases e : i = j + 1
    · subst e; exact Nat.le_refl _
    · have hlt : j < os.length := by omega
      have hg := List.getElem?_eq_getElem hlt
      have := step_next hcl (hn _ (List.mem_of_getElem? hg)) (t.step j _ hg)
      have := ih (by omega) (by omega)
      omega

/-- operation i makes block b with content k -/
def NewAt (os : List DOp) (ρ : Nat → Tmps) (h : Nat → H) (i b : Nat) (k : Blk) : Prop :=
  ∃ o f nb, os[i]? = some o ∧ On o (ρ i) ∧ o.op = .new f ∧ f (ρ i) = some nb ∧ b = (h i).next ∧ k = nb.blk (h i).next ∧ h (i + 1) = newObj k (h i)
theorem NewAt.lt {i b : Nat} {k : Blk} (n : NewAt os ρ h i b k) : i < os.length := by
  obtain ⟨o, _, _, h1, _⟩ := n
  exact (List.getElem?_eq_some_iff.mp h1).1
theorem NewAt.id {i b : Nat} {k : Blk} (n : NewAt os ρ h i b k) : b = (h i).next := by
  obtain ⟨_, _, _, _, _, _, _, h1, _⟩ := n; exact h1
theorem NewAt.blk {i b : Nat} {k : Blk} (n : NewAt os ρ h i b k) : h (i + 1) = newObj k (h i) := by
  obtain ⟨_, _, _, _, _, _, _, _, _, h1⟩ := n; exact h1
theorem NewAt.unique {i b b' : Nat} {k k' : Blk} (n : NewAt os ρ h i b k) (n' : NewAt os ρ h i b' k') : b = b' ∧ k = k' := by
  obtain ⟨o, f, nb, h1, h2, h3, h4, h5, h6, h7⟩ := n
  obtain ⟨o', f', nb', g1, g2, g3, g4, g5, g6, g7⟩ := n'
  rw [h1] at g1; cases g1
  rw [h3] at g3; cases g3
  rw [h4] at g4; cases g4
  exact ⟨h5.trans g5.symm, h6.trans g6.symm⟩

theorem Trace.quiet (t : Trace cl os recs vers ρ h v) {i : Nat} {o : DOp} (ho : os[i]? = some o) (hl : isLoud o.op = false) : h (i + 1) = h i ∨ ∃ b k, NewAt os ρ h i b k := by
  have s := t.step i o ho
  generalize hv : v i = vi at s
  generalize hh : h (i + 1) = h1 at s
  cases s with
  | skip => exact .inl rfl
  | pure => exact .inl rfl
  | read => exact .inl rfl
  | new on hop hf => exact .inr ⟨_, _, o, _, _, ho, on, hop, hf, rfl, rfl, hh⟩
  | loud on hop hf => rw [hop] at hl; simp [isLoud] at hl

/-- the versions of memory -/
def memV (vers : List H) (k : Nat) : H := (vers[k]?).getD ⟨.nil, 0, .nil⟩
theorem Trace.verAt (t : Trace cl os recs vers ρ h v) {i : Nat} {o : DOp} (ho : os[i]? = some o) (hl : isLoud o.op = true) : memV vers (ownD os i) = h i := by
  unfold memV; rw [t.ver i o ho hl]; rfl
theorem Trace.verEnd (t : Trace cl os recs vers ρ h v) : memV vers (ownD os os.length) = h os.length := by
  unfold memV; rw [t.last]; rfl

/-- a statement about a stretch without loud operations, from its end -/
theorem seg_ind (os : List DOp) (p : Nat → Prop) (hend : p os.length) (hloud : ∀ i o, os[i]? = some o → isLoud o.op = true → p i)
    (hstep : ∀ i o, os[i]? = some o → isLoud o.op = false → ownD os (i + 1) = ownD os i → p (i + 1) → p i) : ∀ i, i ≤ os.length → p i := by
  have key : ∀ d i, os.length - i = d → i ≤ os.length → p i := by
    intro d
    induction d with
    | zero => intro i hd hi; have : i = os.length := by omega
              subst this; exact hend
    | succ d ih =>
      intro i hd hi
      have hlt : i < os.length := by omega
      have hg := List.getElem?_eq_getElem hlt
      cases hl : isLoud os[i].op with
      | true => exact hloud i _ hg hl
      | false =>
        have ho := ownD_succ hg
        rw [hl] at ho
        exact hstep i _ hg hl (by simpa using ho) (ih (i + 1) (by omega) (by omega))
  exact fun i hi => key _ i rfl hi

theorem Trace.down (t : Trace cl os recs vers ρ h v) : ∀ i, i ≤ os.length → Fresh (h i) → Sub (h i) (memV vers (ownD os i)) ∧ Fresh (memV vers (ownD os i)) ∧ ∀ j, i ≤ j → j ≤ os.length → ownD os j = ownD os i → Fresh (h j) := by
  refine seg_ind os _ ?_ ?_ ?_
  · intro f
    rw [t.verEnd]
    refine ⟨Sub.refl _, f, fun j h1 h2 _ => ?_⟩
    have e : j = os.length := by omega
    exact e ▸ f
  · intro i o ho hl f
    rw [t.verAt ho hl]
    refine ⟨Sub.refl _, f, fun j h1 h2 he => ?_⟩
    by_cases e : j = i
    · subst e; exact f
    · have h3 := ownD_mono (os := os) (i := i + 1) (j := j) (by omega) h2
      rw [ownD_succ ho, hl] at h3
      simp at h3; omega
  · intro i o ho hl he ih f
    have hf' : Fresh (h (i + 1)) ∧ Sub (h i) (h (i + 1)) := by
      rcases t.quiet ho hl with e | ⟨b, k, n⟩
      · rw [e]; exact ⟨f, Sub.refl _⟩
      · rw [n.blk]; exact ⟨f.new k, Sub.new f k⟩
    obtain ⟨g1, g3, g2⟩ := ih hf'.1
    rw [he] at g1 g3
    refine ⟨hf'.2.trans g1, g3, fun j h1 h2 h3 => ?_⟩
    by_cases e : j = i
    · subst e; exact f
    · exact g2 j (by omega) h2 (by omega)

theorem Trace.up (t : Trace cl os recs vers ρ h v) (b : Nat) (k : Blk) : ∀ i, i ≤ os.length → T.get (memV vers (ownD os i)).heap b = some k →
    T.get (h i).heap b = some k ∨ ∃ j, i ≤ j ∧ ownD os j = ownD os i ∧ NewAt os ρ h j b k := by
  refine seg_ind os _ ?_ ?_ ?_
  · intro e; rw [t.verEnd] at e; exact .inl e
  · intro i o ho hl e; rw [t.verAt ho hl] at e; exact .inl e
  · intro i o ho hl he ih e
    rw [he] at ih
    rcases ih e with g | ⟨j, h1, h2, h3⟩
    · rcases t.quiet ho hl with q | ⟨c, kc, n⟩
      · rw [q] at g; exact .inl g
      · rw [n.blk] at g
        rcases T.get_set g with ⟨g1, g2⟩ | ⟨g1, g2⟩
        · have : b = c := by rw [n.id]; exact g1
          subst this; subst g2
          exact .inr ⟨i, Nat.le_refl _, rfl, n⟩
        · exact .inl g2
    · exact .inr ⟨j, by omega, h2, h3⟩

/-- what a new block is in its own version -/
theorem Trace.newVer (t : Trace cl os recs vers ρ h v) (hcl : ClOk P cl) (hn : ∀ o, o ∈ os → KNext o.op) {i b : Nat} {k k' : Blk} (n : NewAt os ρ h i b k)
    (hl : ownD os (i + 1) = ownD os i) (e : T.get (memV vers (ownD os i)).heap b = some k') : k' = k := by
  rw [← hl] at e
  have hlt := n.lt
  rcases t.up b k' (i + 1) (by omega) e with g | ⟨j, h1, h2, h3⟩
  · rw [n.blk] at g
    rcases T.get_set g with ⟨g1, g2⟩ | ⟨g1, g2⟩
    · exact g2
    · exact absurd n.id g1
  · have h4 := t.next hcl hn h1 (Nat.le_of_lt h3.lt)
    rw [n.blk] at h4
    have h5 : (newObj k (h i)).next = (h i).next + 1 := rfl
    have := h3.id
    have := n.id
    omega
theorem Trace.sibs (t : Trace cl os recs vers ρ h v) : ∀ i, i ≤ os.length → (memV vers (ownD os i)).sibs = (h i).sibs := by
  refine seg_ind os _ ?_ ?_ ?_
  · rw [t.verEnd]
  · intro i o ho hl; rw [t.verAt ho hl]
  · intro i o ho hl he ih
    rw [he] at ih
    rw [ih]
    rcases t.quiet ho hl with q | ⟨c, kc, n⟩
    · rw [q]
    · rw [n.blk]; rfl
theorem Trace.verNext (t : Trace cl os recs vers ρ h v) : ∀ i, i ≤ os.length → (h i).next ≤ (memV vers (ownD os i)).next := by
  refine seg_ind os _ ?_ ?_ ?_
  · rw [t.verEnd]; exact Nat.le_refl _
  · intro i o ho hl; rw [t.verAt ho hl]; exact Nat.le_refl _
  · intro i o ho hl he ih
    rw [he] at ih
    rcases t.quiet ho hl with q | ⟨c, kc, n⟩
    · rw [q] at ih; exact ih
    · rw [n.blk] at ih
      have : (newObj kc (h i)).next = (h i).next + 1 := rfl
      omega
end
end Go.Ax
