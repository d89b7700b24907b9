/- Helper text: snaps are sound. -/
import Derived.Test.YtdpebmcdjoadeaaGreatDoorAxSnap
import Derived.Test.YtdpebmcdjoadeaaGreatDoorAxDrH
namespace Go.Ax
variable {E : Env} {N : Nat} {μ μ' : Mu} {P : Program}

/-- a block of which less is known -/
def LessB : Blk → Blk → Prop
  | .cells sz cs root, .cells sz' cs' root' => sz = sz' ∧ root = root' ∧ ∀ o v, T.get cs o = some v → T.get cs' o = some v
  | .map es c, .map es' c' => es = es' ∧ c = c'
  | _, _ => False
theorem BRel.less {k k' : Blk} (h : LessB k k') {s n : Nat} {o : Obj} (r : BRel E μ s n k' o) : BRel E μ s n k o := by
  cases k with
  | cells sz cs root => cases k' with
    | cells sz' cs' root' =>
      obtain ⟨rfl, rfl, h3⟩ := h
      obtain ⟨arr, e, fz, g1, g2, g3, g4, g5⟩ := r
      exact ⟨arr, e, fz, g1, g2, g3, g4, fun p v hc => g5 p v ⟨hc.1, hc.2.1, h3 _ _ hc.2.2⟩⟩
    | map => exact h.elim
  | map es c => cases k' with
    | cells => exact h.elim
    | map es' c' => obtain ⟨rfl, rfl⟩ := h; exact r
/-- a memory of which less is known -/
structure LessH (a b : H) : Prop where
  get : ∀ c k, T.get a.heap c = some k → ∃ k', T.get b.heap c = some k' ∧ LessB k k'
  sibs : ∀ c sz cs root, T.get a.heap c = some (.cells sz cs root) → T.get a.sibs root = T.get b.sibs root
  next : a.next = b.next
theorem LessB.cells {sz : Nat} {cs : T AV} {root : Nat} {k' : Blk} (h : LessB (.cells sz cs root) k') : ∃ cs', k' = .cells sz cs' root := by
  cases k' with
  | cells sz' cs' root' => obtain ⟨rfl, rfl, _⟩ := h; exact ⟨cs', rfl⟩
  | map => exact h.elim
theorem LessB.map {es : List (AV × AV × Nat)} {c : Nat} {k' : Blk} (h : LessB (.map es c) k') : k' = .map es c := by
  cases k' with
  | cells => exact h.elim
  | map => obtain ⟨rfl, rfl⟩ := h; rfl
theorem LessH.none {a b : H} (l : LessH a b) {c : Nat} (h : T.get b.heap c = none) : T.get a.heap c = none := by
  cases e : T.get a.heap c with
  | none => rfl
  | some k => obtain ⟨k', h1, _⟩ := l.get c k e; rw [h] at h1; cases h1
theorem Rel.less {a b : H} {w : World} (r : Rel E N μ b w) (l : LessH a b) : Rel E N μ a w where
  own := r.own
  blk := fun c x k e g => by
    obtain ⟨k', h1, h2⟩ := l.get c k g
    obtain ⟨o, g1, g2⟩ := r.blk c x k' e h1
    exact ⟨o, g1, g2.less h2⟩
  shares := fun c c' x x' sz sz' cs cs' root root' hne e e' hB g g' => by
    obtain ⟨k, h1, h2⟩ := l.get c _ g
    obtain ⟨k', h1', h2'⟩ := l.get c' _ g'
    obtain ⟨d, rfl⟩ := h2.cells
    obtain ⟨d', rfl⟩ := h2'.cells
    obtain ⟨q1, q2, ls, q3, q4⟩ := r.shares c c' x x' sz sz' d d' root root' hne e e' hB h1 h1'
    exact ⟨q1, q2, ls, by rw [l.sibs c sz cs root g]; exact q3, q4⟩
  maps := fun c c' x x' es cl es' cl' e e' hB g g' => by
    obtain ⟨k, h1, h2⟩ := l.get c _ g
    obtain ⟨k', h1', h2'⟩ := l.get c' _ g'
    rw [h2.map] at h1
    rw [h2'.map] at h1'
    exact r.maps c c' x x' es cl es' cl' e e' hB h1 h1'
  fresh := fun c hc => l.none (r.fresh c (by rw [← l.next]; exact hc))

/-! lists of blocks -/
theorem setsB_get : ∀ {l : List (Nat × RB)} {t : T Blk} {c : Nat} {k : Blk}, T.get (setsB l t) c = some k → (∃ r, (c, r) ∈ l ∧ k = r.blk) ∨ (hasB c l = false ∧ T.get t c = some k)
  | [], t, c, k, h => .inr ⟨rfl, h⟩
  | (b, r) :: l, t, c, k, h => by
    have h : T.get (T.set r.blk (setsB l t) b) c = some k := h
    rcases T.get_set h with ⟨rfl, rfl⟩ | ⟨hne, h⟩
    · exact .inl ⟨r, List.mem_cons_self, rfl⟩
    · rcases setsB_get h with ⟨r', h1, h2⟩ | ⟨h1, h2⟩
      · exact .inl ⟨r', List.mem_cons_of_mem _ h1, h2⟩
      · refine .inr ⟨?_, h2⟩
        unfold hasB
        split
        · rename_i e; exact absurd (Nat.eq_of_beq_eq_true e) hne
        · exact h1
theorem hasB_mem : ∀ {l : List (Nat × RB)} {c : Nat} {r : RB}, (c, r) ∈ l → hasB c l = true
  | (b, r') :: l, c, r, h => by
    unfold hasB
    split
    · rfl
    · rename_i e
      cases h with
      | head => simp at e
      | tail _ h => exact hasB_mem h
theorem hasB_ex : ∀ {l : List (Nat × RB)} {c : Nat}, hasB c l = true → ∃ r, (c, r) ∈ l
  | [], c, h => by cases h
  | (b, r) :: l, c, h => by
    unfold hasB at h
    split at h
    · rename_i e
      rw [Nat.eq_of_beq_eq_true e]
      exact ⟨r, List.mem_cons_self⟩
    · obtain ⟨r', h'⟩ := hasB_ex h
      exact ⟨r', List.mem_cons_of_mem _ h'⟩
theorem keysIn_ok {outs : List (Nat × RB)} : ∀ {l : List (Nat × RB)} {c : Nat}, keysIn outs l = true → hasB c l = true → hasB c outs = true
  | [], c, _, h => by cases h
  | (b, r) :: l, c, hk, h => by
    unfold keysIn at hk
    split at hk
    · rename_i hb
      unfold hasB at h
      split at h
      · rename_i e; rw [Nat.eq_of_beq_eq_true e]; exact hb
      · exact keysIn_ok hk h
    · cases hk

/-! the checks -/
theorem cellsLe_ok : ∀ {vs : List AV} {i : Nat} {t : T AV}, cellsLe i vs t = true → ∀ j v, vs[j]? = some v → T.get t (i + j) = some v
  | [], i, t, _, j, v, h => by simp at h
  | u :: vs, i, t, hc, j, v, h => by
    unfold cellsLe at hc
    split at hc
    · rename_i x hx
      split at hc
      · rename_i he
        cases j with
        | zero => simp at h; subst h; rw [Nat.add_zero, hx, eqAV_t _ _ _ he]
        | succ j =>
          have := cellsLe_ok hc j v (by simpa using h)
          rwa [show Nat.succ i + j = i + (j + 1) by omega] at this
      · cases hc
    · cases hc
theorem entsEq_t : ∀ {l m : List (AV × AV × Nat)}, entsEq l m = true → l = m
  | [], [], _ => rfl
  | [], _ :: _, h => by cases h
  | _ :: _, [], h => by cases h
  | (k, v, b) :: l, (k', v', b') :: m, h => by
    unfold entsEq at h
    split at h
    · rename_i h1
      split at h
      · rename_i h2
        split at h
        · rename_i h3
          rw [eqAV_t _ _ _ h1, eqAV_t _ _ _ h2, Nat.eq_of_beq_eq_true h3, entsEq_t h]
        · cases h
      · cases h
    · cases h
theorem natsEq_t : ∀ {l m : List Nat}, natsEq l m = true → l = m
  | [], [], _ => rfl
  | [], _ :: _, h => by cases h
  | _ :: _, [], h => by cases h
  | a :: l, b :: m, h => by
    unfold natsEq at h
    split at h
    · rename_i h1; rw [Nat.eq_of_beq_eq_true h1, natsEq_t h]
    · cases h
theorem optEq_t {a b : Option (List Nat)} (h : optEq a b = true) : a = b := by
  unfold optEq at h
  split at h
  · rfl
  · rw [natsEq_t h]
  · cases h
theorem blkLe_ok {r : RB} {k : Blk} (h : blkLe r k = true) : LessB r.blk k := by
  cases r with
  | row sz root cs =>
    cases k with
    | cells sz' cs' root' =>
      simp only [blkLe] at h
      split at h
      · rename_i h1
        split at h
        · rename_i h2
          refine ⟨Nat.eq_of_beq_eq_true h1, Nat.eq_of_beq_eq_true h2, fun o v hv => ?_⟩
          rcases ofList_get _ _ _ _ _ hv with ⟨_, _, h3⟩ | ⟨_, h3⟩
          · have := cellsLe_ok h o v (by simpa using h3)
            rwa [Nat.zero_add] at this
          · rw [T.get_nil] at h3; cases h3
        · cases h
      · cases h
    | map => simp [blkLe] at h
  | map es c =>
    cases k with
    | cells => simp [blkLe] at h
    | map es' c' =>
      simp only [blkLe] at h
      split at h
      · rename_i h1; exact ⟨(entsEq_t h).symm, Nat.eq_of_beq_eq_true h1⟩
      · cases h
theorem memLe_ok {sib : T (List Nat)} {h : H} : ∀ {l : List (Nat × RB)}, memLe sib h l = true → ∀ c r, (c, r) ∈ l → ∃ k, T.get h.heap c = some k ∧ LessB r.blk k ∧ rootOk sib h.sibs r = true
  | [], _, c, r, hm => by cases hm
  | (b, r') :: l, he, c, r, hm => by
    unfold memLe at he
    split at he
    · rename_i k hk
      split at he
      · rename_i h1
        split at he
        · rename_i h2
          cases hm with
          | head => exact ⟨k, hk, blkLe_ok h1, h2⟩
          | tail _ hm => exact memLe_ok he c r hm
        · cases he
      · cases he
    · cases he
theorem memLe_less {l : List (Nat × RB)} {sib : T (List Nat)} {next : Nat} {h : H} (he : memLe sib h l = true) (hn : next = h.next) : LessH ⟨setsB l .nil, next, sib⟩ h where
  get := fun c k g => by
    rcases setsB_get g with ⟨r, h1, rfl⟩ | ⟨_, h1⟩
    · obtain ⟨k', g1, g2, _⟩ := memLe_ok he c r h1
      exact ⟨k', g1, g2⟩
    · rw [T.get_nil] at h1; cases h1
  sibs := fun c sz cs root g => by
    rcases setsB_get g with ⟨r, h1, h2⟩ | ⟨_, h1⟩
    · obtain ⟨k', _, _, g3⟩ := memLe_ok he c r h1
      cases r with
      | row sz' root' cs' =>
        cases h2
        exact optEq_t g3
      | map => cases h2
    · rw [T.get_nil] at h1; cases h1
  next := hn
theorem closedL_ok {ins : List (Nat × RB)} {t : T Blk} : ∀ {l : List Nat}, closedL ins t l = true → ∀ c, c ∈ l → hasB c ins = true ∨ T.get t c = none
  | [], _, c, h => by cases h
  | d :: l, he, c, h => by
    unfold closedL at he
    split at he
    · rename_i h1
      cases h with
      | head => exact .inl h1
      | tail _ h => exact closedL_ok he c h
    · split at he
      · rename_i h1
        cases h with
        | head => exact .inr h1
        | tail _ h => exact closedL_ok he c h
      · cases he
theorem memClosed_ok {ins : List (Nat × RB)} {h : H} : ∀ {l : List (Nat × RB)}, memClosed ins h l = true → ∀ c sz root cs ls, (c, RB.row sz root cs) ∈ l → T.get h.sibs root = some ls →
    ∀ d, d ∈ ls → hasB d ins = true ∨ T.get h.heap d = none
  | [], _, c, sz, root, cs, ls, hm, _, _, _ => by cases hm
  | (b, r) :: l, he, c, sz, root, cs, ls, hm, hs, d, hd => by
    unfold memClosed at he
    split at he
    · rename_i h1
      cases hm with
      | head =>
        unfold rootClosed at h1
        simp only [hs] at h1
        exact closedL_ok h1 d hd
      | tail _ hm => exact memClosed_ok he c sz root cs ls hm hs d hd
    · cases he
end Go.Ax
