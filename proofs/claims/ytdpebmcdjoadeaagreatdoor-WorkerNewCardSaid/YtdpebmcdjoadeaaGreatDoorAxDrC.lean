/- Helper text: regions that draw their order. Third part: what the executor knows of the orders. -/
import Derived.Test.YtdpebmcdjoadeaaGreatDoorAxDrB
namespace Go.Ax
variable {P : Program}

theorem bitOn_eq (m i : Nat) : bitOn m i = m.testBit i := by
  unfold bitOn
  rw [Nat.testBit_eq_decide_div_mod_eq]
  have h1 : Nat.mod (Nat.shiftRight m i) 2 = m / 2 ^ i % 2 := by
    show (m >>> i) % 2 = _
    rw [Nat.shiftRight_eq_div_pow]
  rw [h1]
  rcases Nat.mod_two_eq_zero_or_one (m / 2 ^ i) with h | h <;> rw [h] <;> rfl
theorem bitOn_or (m e k b : Nat) : bitOn (Nat.lor m (Nat.lor (Nat.shiftLeft 1 e) k)) b = true ↔ bitOn m b = true ∨ b = e ∨ bitOn k b = true := by
  simp only [bitOn_eq]
  show (m ||| (1 <<< e ||| k)).testBit b = true ↔ _
  rw [Nat.testBit_or, Nat.testBit_or, Nat.one_shiftLeft, Nat.testBit_two_pow]
  simp
  constructor
  · rintro (h | h | h)
    · exact .inl h
    · exact .inr (.inl h.symm)
    · exact .inr (.inr h)
  · rintro (h | h | h)
    · exact .inl h
    · exact .inr (.inl h.symm)
    · exact .inr (.inr h)
theorem bitOn_zero (b : Nat) : bitOn 0 b = true ↔ False := by
  rw [bitOn_eq, Nat.zero_testBit]; simp

theorem maskOf_ok (acc : List Nat) (j : Nat) : ∀ (es : List Edge) (m : Nat), maskOf acc j es = some m →
    (∀ e, e ∈ es → Region.binds .any e = true → e.on < j) ∧
    ∀ b, bitOn m b = true ↔ ∃ e, e ∈ es ∧ Region.binds .any e = true ∧ ∃ k, acc[e.on]? = some k ∧ (b = e.on ∨ bitOn k b = true)
  | [], m, h => by
    cases h
    exact ⟨fun e he => (by cases he), fun b => ⟨fun h => ((bitOn_zero b).mp h).elim, fun ⟨e, he, _⟩ => (by cases he)⟩⟩
  | e :: es, m, h => by
    unfold maskOf at h
    split at h
    · cases h
    · rename_i m' hm'
      obtain ⟨h1, h2⟩ := maskOf_ok acc j es m' hm'
      split at h
      · rename_i hb
        cases h
        refine ⟨fun x hx hbx => ?_, fun b => ?_⟩
        · cases hx with
          | head => rw [hb] at hbx; cases hbx
          | tail _ hx => exact h1 x hx hbx
        · rw [h2 b]
          constructor
          · rintro ⟨x, hx, r⟩; exact ⟨x, List.mem_cons_of_mem _ hx, r⟩
          · rintro ⟨x, hx, hbx, r⟩
            cases hx with
            | head => rw [hb] at hbx; cases hbx
            | tail _ hx => exact ⟨x, hx, hbx, r⟩
      · rename_i hb
        split at h
        · cases h
        · rename_i hlt
          split at h
          · cases h
          · rename_i k hk
            cases h
            refine ⟨fun x hx hbx => ?_, fun b => ?_⟩
            · cases hx with
              | head => exact blt_t hlt
              | tail _ hx => exact h1 x hx hbx
            · rw [bitOn_or, h2 b]
              constructor
              · rintro (⟨x, hx, r⟩ | hx)
                · exact ⟨x, List.mem_cons_of_mem _ hx, r⟩
                · exact ⟨e, List.mem_cons_self, hb, k, hk, hx⟩
              · rintro ⟨x, hx, hbx, k', hk', r⟩
                cases hx with
                | head => rw [hk] at hk'; cases hk'; exact .inr r
                | tail _ hx => exact .inl ⟨x, hx, hbx, k', hk', r⟩

theorem masks_ok : ∀ (os : List Oper) (acc : List Nat) (j : Nat) (ms : List Nat), masks acc j os = some ms → acc.length = j →
    ms.length = j + os.length ∧ (∀ i, i < j → ms[i]? = acc[i]?) ∧ ∀ (i : Nat) (o : Oper), os[i]? = some o → ∃ m, ms[j + i]? = some m ∧
      (∀ e, e ∈ o.after.toList → Region.binds .any e = true → e.on < j + i) ∧
      ∀ b, bitOn m b = true ↔ ∃ e, e ∈ o.after.toList ∧ Region.binds .any e = true ∧ ∃ k, ms[e.on]? = some k ∧ (b = e.on ∨ bitOn k b = true)
  | [], acc, j, ms, h, hl => by
    cases h
    exact ⟨by simp [hl], fun _ _ => rfl, fun i o ho => by simp at ho⟩
  | o :: os, acc, j, ms, h, hl => by
    unfold masks at h
    split at h
    · cases h
    · rename_i m hm
      obtain ⟨h1, h2, h3⟩ := masks_ok os (acc ++ [m]) (j + 1) ms h (by simp [hl])
      have hacc : ∀ i, i < j → ms[i]? = acc[i]? := fun i hi => by
        rw [h2 i (by omega), List.getElem?_append_left (by omega)]
      refine ⟨by rw [h1, List.length_cons]; omega, hacc, fun i x hx => ?_⟩
      cases i with
      | zero =>
        simp at hx; subst hx
        obtain ⟨g1, g2⟩ := maskOf_ok acc j _ _ hm
        refine ⟨m, ?_, g1, fun b => ?_⟩
        · rw [Nat.add_zero, h2 j (by omega), List.getElem?_append_right (by omega), hl]; simp
        · rw [g2 b]
          constructor
          · rintro ⟨e, he, hb, k, hk, r⟩
            exact ⟨e, he, hb, k, by rw [hacc _ (g1 e he hb)]; exact hk, r⟩
          · rintro ⟨e, he, hb, k, hk, r⟩
            exact ⟨e, he, hb, k, by rw [← hacc _ (g1 e he hb)]; exact hk, r⟩
      | succ i =>
        obtain ⟨m', g1, g2, g3⟩ := h3 i x (by simpa using hx)
        have e : j + 1 + i = j + (i + 1) := by omega
        rw [e] at g1 g2
        exact ⟨m', g1, g2, g3⟩

theorem ordOk1_ok (b : Inf) : ∀ (as : List Inf) (i : Nat), ordOk1 b i as = true → ∀ k a, as[k]? = some a → clash a b = true → bitOn b.mask (i + k) = true
  | [], i, _, k, a, hk, _ => by simp at hk
  | x :: as, i, h, k, a, hk, hc => by
    unfold ordOk1 at h
    split at h
    · rename_i hx
      cases k with
      | zero => simp at hk; subst hk; rw [hx] at hc; cases hc
      | succ k =>
        have := ordOk1_ok b as (i + 1) h k a (by simpa using hk) hc
        have e : i + 1 + k = i + (k + 1) := by omega
        rwa [e] at this
    · split at h
      · rename_i hbit
        cases k with
        | zero => exact hbit
        | succ k =>
          have := ordOk1_ok b as (i + 1) h k a (by simpa using hk) hc
          have e : i + 1 + k = i + (k + 1) := by omega
          rwa [e] at this
      · cases h
theorem ordOk_ok : ∀ (bs before : List Inf), ordOk before bs = true → ∀ j b, bs[j]? = some b → ∀ i a, (before ++ bs)[i]? = some a → i < before.length + j → clash a b = true → bitOn b.mask i = true
  | [], before, _, j, b, hj, _, _, _, _, _ => by simp at hj
  | x :: bs, before, h, j, b, hj, i, a, hi, hlt, hc => by
    unfold ordOk at h
    split at h
    · rename_i h1
      cases j with
      | zero =>
        simp at hj; subst hj
        rw [List.getElem?_append_left (by omega)] at hi
        have := ordOk1_ok _ before 0 h1 i a hi hc
        rwa [Nat.zero_add] at this
      | succ j =>
        refine ordOk_ok bs (before ++ [x]) h j b (by simpa using hj) i a (by simpa using hi) (by simp; omega) hc
    · cases h

theorem infs_ok (ops : Array Oper) : ∀ (os : List Oper) (ms : List Nat), ms.length = os.length → ∀ (i : Nat) (o : Oper), os[i]? = some o → ∃ m, ms[i]? = some m ∧
    (infs P ops os ms)[i]? = some ⟨o.dst, namesOf ops o, m, isLoud (cOp P o.op), isFirst (cOp P o.op)⟩
  | [], ms, _, i, o, h => by simp at h
  | x :: os, [], hl, i, o, h => by simp at hl
  | x :: os, m :: ms, hl, i, o, h => by
    cases i with
    | zero => simp at h; subst h; exact ⟨m, rfl, rfl⟩
    | succ i => exact infs_ok ops os ms (by simpa using hl) i o (by simpa using h)

/-- how many loud ones before place i -/
def cntI : List Inf → Nat → Nat
  | [], _ => 0
  | _ :: _, 0 => 0
  | b :: bs, i + 1 => (if b.loud then 1 else 0) + cntI bs i
theorem feasAt_ok (i m : Nat) : ∀ (bs : List Inf) (k j : Nat), (∀ q b, bs[q]? = some b → b.loud = true → (cntI bs q < k → bitOn b.mask i = false) ∧ (k ≤ cntI bs q → bitOn m (j + q) = false)) →
    feasAt i m k bs j = true
  | [], k, j, _ => rfl
  | b :: bs, k, j, h => by
    unfold feasAt
    split
    · rename_i hb
      refine feasAt_ok i m bs k (j + 1) fun q c hq hc => ?_
      obtain ⟨h1, h2⟩ := h (q + 1) c (by simpa using hq) hc
      have e : cntI (b :: bs) (q + 1) = cntI bs q := by show (if b.loud then 1 else 0) + cntI bs q = _; rw [hb]; simp
      have e2 : j + (q + 1) = j + 1 + q := by omega
      rw [e] at h1 h2; rw [e2] at h2
      exact ⟨h1, h2⟩
    · rename_i hb
      have e : ∀ q, cntI (b :: bs) (q + 1) = cntI bs q + 1 := fun q => by show (if b.loud then 1 else 0) + cntI bs q = _; rw [hb]; simp; omega
      split
      · obtain ⟨_, h2⟩ := h 0 b (by simp) hb
        have := h2 (Nat.zero_le _)
        rw [Nat.add_zero] at this
        rw [this]
        refine feasAt_ok i m bs 0 (j + 1) fun q c hq hc => ?_
        obtain ⟨_, h2⟩ := h (q + 1) c (by simpa using hq) hc
        have e2 : j + (q + 1) = j + 1 + q := by omega
        rw [e2] at h2
        exact ⟨fun h => by omega, fun _ => h2 (Nat.zero_le _)⟩
      · rename_i k
        obtain ⟨h1, _⟩ := h 0 b (by simp) hb
        have : cntI (b :: bs) 0 = 0 := rfl
        rw [h1 (by omega)]
        refine feasAt_ok i m bs k (j + 1) fun q c hq hc => ?_
        obtain ⟨h1, h2⟩ := h (q + 1) c (by simpa using hq) hc
        rw [e] at h1 h2
        have e2 : j + (q + 1) = j + 1 + q := by omega
        rw [e2] at h2
        exact ⟨fun h => h1 (by omega), fun h => h2 (by omega)⟩
theorem feasFrom_ok (all : List Inf) (i m own : Nat) : ∀ (n k q : Nat), q < n → k + q ≠ own → (feasFrom all i m own k n)[q]? = some (feasAt i m (k + q) all 0)
  | 0, k, q, h, _ => by omega
  | n + 1, k, q, h, hne => by
    unfold feasFrom
    cases q with
    | zero =>
      simp only [List.getElem?_cons_zero, Nat.add_zero]
      cases hb : Nat.beq k own with
      | true => exact absurd (Nat.eq_of_beq_eq_true hb) hne
      | false => rfl
    | succ q =>
      rw [List.getElem?_cons_succ, feasFrom_ok all i m own n (k + 1) q (by omega) (by omega)]
      congr 2
      omega

theorem dops_ok (n : Nat) (ops : Array Oper) (all : List Inf) (louds : Nat) : ∀ (os : List Oper) (bs : List Inf) (i own : Nat) (l : List DOp), dops P n ops all louds i own os bs = some l →
    l.length = os.length ∧ ∀ (k : Nat) (o : Oper), os[k]? = some o → ∃ d g b, bs[k]? = some b ∧ cDst n o.dst = some d ∧ cGuard ops o.guard = some g ∧
      l[k]? = some ⟨d, cOp P o.op, g, feasFrom all (i + k) b.mask (own + cntI bs k) 0 (louds + 1)⟩
  | [], bs, i, own, l, h => by
    cases bs <;> (simp only [dops] at h; cases h; exact ⟨rfl, fun k o ho => by simp at ho⟩)
  | o :: os, [], i, own, l, h => by simp [dops] at h
  | o :: os, b :: bs, i, own, l, h => by
    unfold dops at h
    split at h
    · rename_i d g l' hd hg hl'
      cases h
      obtain ⟨h1, h2⟩ := dops_ok n ops all louds os bs _ _ l' hl'
      refine ⟨by simp [h1], fun k x hx => ?_⟩
      cases k with
      | zero =>
        simp at hx; subst hx
        exact ⟨d, g, b, rfl, hd, hg, rfl⟩
      | succ k =>
        obtain ⟨d', g', b', k1, k2, k3, k4⟩ := h2 k x (by simpa using hx)
        refine ⟨d', g', b', by simpa using k1, k2, k3, ?_⟩
        rw [List.getElem?_cons_succ, k4]
        have e1 : i + 1 + k = i + (k + 1) := by omega
        rw [e1]
        refine congrArg (fun z => some (DOp.mk d' (cOp P x.op) g' (feasFrom all (i + (k + 1)) b'.mask z 0 (louds + 1)))) ?_
        show _ = own + ((if b.loud then 1 else 0) + cntI bs k)
        cases b.loud
        · simp
        · simp; omega
    · cases h
end Go.Ax
