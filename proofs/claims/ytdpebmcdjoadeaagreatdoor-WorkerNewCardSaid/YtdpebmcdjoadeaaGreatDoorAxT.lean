/- Helper text: a persistent map from numbers, written with recursors so that the kernel evaluates it fast, and its laws. -/
import GoSem.Claims
namespace Go.Ax

/-- A persistent map from numbers. -/
inductive T (α : Type) where
  | nil
  | node (v : Option α) (l r : T α)

variable {α : Type}

theorem half_lt {j : Nat} : j / 2 < j + 1 := by omega

/-- the way to a place: true: left -/
def path (f : Nat) : Nat → List Bool :=
  Nat.rec (motive := fun _ => Nat → List Bool) (fun _ => []) (fun _ ih i => Nat.rec (motive := fun _ => List Bool) [] (fun j _ => Nat.beq (Nat.mod j (nat_lit 2)) (nat_lit 0) :: ih (Nat.div j (nat_lit 2))) i) f

noncomputable def T.v (t : T α) : Option α := T.rec (motive := fun _ => Option α) none (fun v _ _ _ _ => v) t
noncomputable def T.l (t : T α) : T α := T.rec (motive := fun _ => T α) .nil (fun _ l _ _ _ => l) t
noncomputable def T.r (t : T α) : T α := T.rec (motive := fun _ => T α) .nil (fun _ _ r _ _ => r) t
noncomputable def T.getP (p : List Bool) : T α → Option α :=
  List.rec (motive := fun _ => T α → Option α) (fun t => T.v t) (fun b _ ih t => Bool.rec (motive := fun _ => Option α) (ih (T.r t)) (ih (T.l t)) b) p
noncomputable def T.setP (x : α) (p : List Bool) : T α → T α :=
  List.rec (motive := fun _ => T α → T α) (fun t => .node (some x) (T.l t) (T.r t))
    (fun b _ ih t => Bool.rec (motive := fun _ => T α) (.node (T.v t) (T.l t) (ih (T.r t))) (.node (T.v t) (ih (T.l t)) (T.r t)) b) p

/-- by the number itself; f: at least the number of steps (64 serve every number that comes up) -/
noncomputable def T.getF (f : Nat) : T α → Nat → Option α :=
  Nat.rec (motive := fun _ => T α → Nat → Option α) (fun _ _ => none) (fun _ ih t i =>
    T.rec (motive := fun _ => Option α) none (fun v l r _ _ => Nat.rec (motive := fun _ => Option α) v (fun j _ =>
      Bool.rec (motive := fun _ => Option α) (ih r (Nat.div j (nat_lit 2))) (ih l (Nat.div j (nat_lit 2))) (Nat.beq (Nat.mod j (nat_lit 2)) (nat_lit 0))) i) t) f
noncomputable def T.setF (x : α) (f : Nat) : T α → Nat → T α :=
  Nat.rec (motive := fun _ => T α → Nat → T α) (fun t _ => t) (fun _ ih t i =>
    Nat.rec (motive := fun _ => T α) (.node (some x) (T.l t) (T.r t)) (fun j _ =>
      Bool.rec (motive := fun _ => T α) (.node (T.v t) (T.l t) (ih (T.r t) (Nat.div j (nat_lit 2)))) (.node (T.v t) (ih (T.l t) (Nat.div j (nat_lit 2))) (T.r t)) (Nat.beq (Nat.mod j (nat_lit 2)) (nat_lit 0))) i) f

@[simp] theorem T.v_nil : T.v (.nil : T α) = none := rfl
@[simp] theorem T.l_nil : T.l (.nil : T α) = .nil := rfl
@[simp] theorem T.r_nil : T.r (.nil : T α) = .nil := rfl
@[simp] theorem T.v_node (v : Option α) (l r : T α) : T.v (.node v l r) = v := rfl
@[simp] theorem T.l_node (v : Option α) (l r : T α) : T.l (.node v l r) = l := rfl
@[simp] theorem T.r_node (v : Option α) (l r : T α) : T.r (.node v l r) = r := rfl

/-- The map as a function of the place: what all laws speak of. (Numbers from 2^64 on have no place: none.) -/
noncomputable def T.get (t : T α) (i : Nat) : Option α := T.getF (nat_lit 64) t i
noncomputable def T.set (x : α) (t : T α) (i : Nat) : T α := T.setF x (nat_lit 64) t i


theorem odd_beq {j : Nat} (h : ¬ j % 2 = 0) : Nat.beq (j % 2) 0 = false := by
  have := Nat.mod_two_eq_zero_or_one j
  rcases this with h' | h'
  · exact absurd h' h
  · rw [h']; rfl
theorem T.getF_nil (f i : Nat) : T.getF f (.nil : T α) i = none := by cases f <;> rfl
theorem T.getF_zero (f : Nat) (t : T α) : T.getF (f + 1) t 0 = T.v t := by cases t <;> rfl
theorem T.getF_even (f : Nat) (t : T α) (j : Nat) (h : j % 2 = 0) : T.getF (f + 1) t (j + 1) = T.getF f (T.l t) (j / 2) := by
  cases t with
  | nil => rw [T.getF_nil, T.l_nil, T.getF_nil]
  | node v l r =>
    show Bool.rec (motive := fun _ => Option α) (T.getF f r (j / 2)) (T.getF f l (j / 2)) (Nat.beq (j % 2) 0) = _
    rw [h]; rfl
theorem T.getF_odd (f : Nat) (t : T α) (j : Nat) (h : ¬ j % 2 = 0) : T.getF (f + 1) t (j + 1) = T.getF f (T.r t) (j / 2) := by
  cases t with
  | nil => rw [T.getF_nil, T.r_nil, T.getF_nil]
  | node v l r =>
    show Bool.rec (motive := fun _ => Option α) (T.getF f r (j / 2)) (T.getF f l (j / 2)) (Nat.beq (j % 2) 0) = _
    rw [odd_beq h]; rfl
theorem T.setF_zero (x : α) (f : Nat) (t : T α) : T.setF x (f + 1) t 0 = .node (some x) (T.l t) (T.r t) := rfl
theorem T.setF_even (x : α) (f : Nat) (t : T α) (j : Nat) (h : j % 2 = 0) : T.setF x (f + 1) t (j + 1) = .node (T.v t) (T.setF x f (T.l t) (j / 2)) (T.r t) := by
  show Bool.rec (motive := fun _ => T α) (.node (T.v t) (T.l t) (T.setF x f (T.r t) (j / 2))) (.node (T.v t) (T.setF x f (T.l t) (j / 2)) (T.r t)) (Nat.beq (j % 2) 0) = _
  rw [h]; rfl
theorem T.setF_odd (x : α) (f : Nat) (t : T α) (j : Nat) (h : ¬ j % 2 = 0) : T.setF x (f + 1) t (j + 1) = .node (T.v t) (T.l t) (T.setF x f (T.r t) (j / 2)) := by
  show Bool.rec (motive := fun _ => T α) (.node (T.v t) (T.l t) (T.setF x f (T.r t) (j / 2))) (.node (T.v t) (T.setF x f (T.l t) (j / 2)) (T.r t)) (Nat.beq (j % 2) 0) = _
  rw [odd_beq h]

theorem T.getF_setF_ne (x : α) : ∀ (f : Nat) (t : T α) (i j : Nat), j ≠ i → T.getF f (T.setF x f t i) j = T.getF f t j := by
  intro f
  induction f with
  | zero => intro t i j _; rfl
  | succ f ih =>
    intro t i j h
    cases i with
    | zero =>
      cases j with
      | zero => exact absurd rfl h
      | succ j =>
        by_cases hj : j % 2 = 0
        · rw [T.getF_even _ _ _ hj, T.getF_even _ _ _ hj]; rfl
        · rw [T.getF_odd _ _ _ hj, T.getF_odd _ _ _ hj]; rfl
    | succ i =>
      by_cases hi : i % 2 = 0
      · rw [T.setF_even _ _ _ _ hi]
        cases j with
        | zero => rw [T.getF_zero, T.getF_zero]; rfl
        | succ j =>
          by_cases hj : j % 2 = 0
          · rw [T.getF_even _ _ _ hj, T.getF_even _ _ _ hj, T.l_node]
            exact ih _ _ _ (by omega)
          · rw [T.getF_odd _ _ _ hj, T.getF_odd _ _ _ hj]; rfl
      · rw [T.setF_odd _ _ _ _ hi]
        cases j with
        | zero => rw [T.getF_zero, T.getF_zero]; rfl
        | succ j =>
          by_cases hj : j % 2 = 0
          · rw [T.getF_even _ _ _ hj, T.getF_even _ _ _ hj]; rfl
          · rw [T.getF_odd _ _ _ hj, T.getF_odd _ _ _ hj, T.r_node]
            exact ih _ _ _ (by omega)
theorem T.getF_setF_self (x y : α) : ∀ (f : Nat) (t : T α) (i : Nat), T.getF f (T.setF x f t i) i = some y → y = x := by
  intro f
  induction f with
  | zero => intro t i h; cases h
  | succ f ih =>
    intro t i h
    cases i with
    | zero => rw [T.setF_zero, T.getF_zero] at h; cases h; rfl
    | succ i =>
      by_cases hi : i % 2 = 0
      · rw [T.setF_even _ _ _ _ hi, T.getF_even _ _ _ hi, T.l_node] at h; exact ih _ _ h
      · rw [T.setF_odd _ _ _ _ hi, T.getF_odd _ _ _ hi, T.r_node] at h; exact ih _ _ h

theorem T.get_set_ne (x : α) (t : T α) {i j : Nat} (h : j ≠ i) : T.get (T.set x t i) j = T.get t j := T.getF_setF_ne x 64 t i j h
theorem T.get_set_self {x y : α} {t : T α} {i : Nat} (h : T.get (T.set x t i) i = some y) : y = x := T.getF_setF_self x y 64 t i h
theorem T.get_set {x y : α} {t : T α} {i j : Nat} (h : T.get (T.set x t i) j = some y) : (j = i ∧ y = x) ∨ (j ≠ i ∧ T.get t j = some y) := by
  by_cases e : j = i
  · subst e; exact .inl ⟨rfl, T.get_set_self h⟩
  · exact .inr ⟨e, by rwa [T.get_set_ne x t e] at h⟩
theorem T.get_nil (i : Nat) : T.get (.nil : T α) i = none := T.getF_nil 64 i

theorem T.getF_setF_some (x : α) : ∀ (f : Nat) (t : T α) (i : Nat), i + 1 < 2 ^ f → T.getF f (T.setF x f t i) i = some x := by
  intro f
  induction f with
  | zero => intro t i h; simp at h
  | succ f ih =>
    intro t i h
    cases i with
    | zero => rw [T.setF_zero, T.getF_zero]; rfl
    | succ i =>
      have hlt : i / 2 + 1 < 2 ^ f := by rw [Nat.pow_succ] at h; omega
      by_cases hi : i % 2 = 0
      · rw [T.setF_even _ _ _ _ hi, T.getF_even _ _ _ hi, T.l_node]; exact ih _ _ hlt
      · rw [T.setF_odd _ _ _ _ hi, T.getF_odd _ _ _ hi, T.r_node]; exact ih _ _ hlt
theorem T.get_set_some (x : α) (t : T α) {i : Nat} (h : i < 4294967296) : T.get (T.set x t i) i = some x :=
  T.getF_setF_some x 64 t i (by omega)

/-! the places by their ways -/
theorem path_zero (f : Nat) : path (f + 1) 0 = [] := rfl
theorem path_succ (f j : Nat) : path (f + 1) (j + 1) = (Nat.beq (j % 2) 0) :: path f (j / 2) := rfl
theorem T.getP_path : ∀ (f : Nat) (t : T α) (i : Nat), i + 1 < 2 ^ f → T.getP (path f i) t = T.getF f t i := by
  intro f
  induction f with
  | zero => intro t i h; simp at h
  | succ f ih =>
    intro t i h
    cases i with
    | zero => rw [path_zero, T.getF_zero]; rfl
    | succ j =>
      rw [path_succ]
      show Bool.rec (motive := fun _ => Option α) (T.getP (path f (j / 2)) (T.r t)) (T.getP (path f (j / 2)) (T.l t)) (Nat.beq (j % 2) 0) = _
      have hlt : j / 2 + 1 < 2 ^ f := by rw [Nat.pow_succ] at h; omega
      by_cases hj : j % 2 = 0
      · rw [T.getF_even _ _ _ hj, hj]; exact ih _ _ hlt
      · rw [T.getF_odd _ _ _ hj, odd_beq hj]; exact ih _ _ hlt
theorem T.setP_path (x : α) : ∀ (f : Nat) (t : T α) (i : Nat), i + 1 < 2 ^ f → T.setP x (path f i) t = T.setF x f t i := by
  intro f
  induction f with
  | zero => intro t i h; simp at h
  | succ f ih =>
    intro t i h
    cases i with
    | zero => rfl
    | succ j =>
      rw [path_succ]
      show Bool.rec (motive := fun _ => T α) (.node (T.v t) (T.l t) (T.setP x (path f (j / 2)) (T.r t))) (.node (T.v t) (T.setP x (path f (j / 2)) (T.l t)) (T.r t)) (Nat.beq (j % 2) 0) = _
      have hlt : j / 2 + 1 < 2 ^ f := by rw [Nat.pow_succ] at h; omega
      by_cases hj : j % 2 = 0
      · rw [T.setF_even _ _ _ _ hj, hj, ← ih _ _ hlt]; rfl
      · rw [T.setF_odd _ _ _ _ hj, odd_beq hj, ← ih _ _ hlt]
/-- a way of at most twelve steps -/
noncomputable def wayOf (i : Nat) : List Bool := path (nat_lit 12) i
theorem T.getP_way (t : T α) (i : Nat) (h : i < 4095) : T.getP (wayOf i) t = T.getF 12 t i := T.getP_path 12 t i (by simp; omega)
theorem T.setP_way (x : α) (t : T α) (i : Nat) (h : i < 4095) : T.setP x (wayOf i) t = T.setF x 12 t i := T.setP_path x 12 t i (by simp; omega)
end Go.Ax
