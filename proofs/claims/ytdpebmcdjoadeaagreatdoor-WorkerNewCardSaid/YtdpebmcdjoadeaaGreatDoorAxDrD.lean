/- Helper text: regions that draw their order. Fourth part: the plan of a region, slots. -/
import Derived.Test.YtdpebmcdjoadeaaGreatDoorAxDrC
namespace Go.Ax
variable {E : Env} {N : Nat} {μ μ' : Mu} {P : Program}

/-- what the executor has found out about a region -/
structure Plan (P : Program) (n : Nat) (ops : Array Oper) (l : List DOp) (mask : Nat → Nat) : Prop where
  len : l.length = ops.size
  op : ∀ (i : Nat) (o : Oper), ops[i]? = some o → ∃ d : DOp, l[i]? = some d ∧ cDst n o.dst = some d.dst ∧ cGuard ops o.guard = some d.guard ∧ d.op = cOp P o.op ∧
    ∀ q, q ≠ ownD l i → q ≤ ownD l l.length → (∀ (j : Nat) (o' : Oper), ops[j]? = some o' → isLoud (cOp P o'.op) = true → (ownD l j < q → bitOn (mask j) i = false) ∧ (q ≤ ownD l j → bitOn (mask i) j = false)) →
      d.feas[q]? = some true
  edges : ∀ (i : Nat) (o : Oper), ops[i]? = some o → ∀ e, e ∈ o.after.toList → Region.binds .any e = true → e.on < i
  bits : ∀ (i : Nat) (o : Oper), ops[i]? = some o → ∀ b, bitOn (mask i) b = true ↔ ∃ e, e ∈ o.after.toList ∧ Region.binds .any e = true ∧ (b = e.on ∨ bitOn (mask e.on) b = true)
  ord : ∀ (i j : Nat) (a b : Oper), ops[i]? = some a → ops[j]? = some b → i < j →
    (dstIn a.dst (namesOf ops b) = true ∨ dstIn b.dst (namesOf ops a) = true ∨ (∃ t, a.dst = some t ∧ b.dst = some t) ∨ (isFirst (cOp P a.op) = true ∧ isLoud (cOp P b.op) = true)) → bitOn (mask j) i = true

theorem memB_self (t : Nat) : memB t [t] = true := by simp [memB]
theorem memB_mem {t : Nat} : ∀ {l : List Nat}, t ∈ l → memB t l = true
  | x :: l, h => by
    unfold memB
    split
    · rfl
    · rename_i hb
      cases h with
      | head => simp at hb
      | tail _ h => exact memB_mem h

theorem clash_of {a b : Inf} (h : dstIn a.dst b.looks = true ∨ dstIn b.dst a.looks = true ∨ (∃ t, a.dst = some t ∧ b.dst = some t) ∨ (a.first = true ∧ b.loud = true)) : clash a b = true := by
  unfold clash
  split
  · rfl
  · rename_i h1
    split
    · rfl
    · rename_i h2
      rcases h with h | h | ⟨t, h3, h4⟩ | ⟨h3, h4⟩
      · rw [h] at h1; cases h1
      · rw [h] at h2; cases h2
      · rw [h3, h4]; simp only [dstIn, memB_self]
      · split
        · rfl
        · rw [h3]; exact h4

theorem cntI_own (l : List DOp) : ∀ (bs : List Inf) (k : Nat), (∀ (i : Nat) (d : DOp) (b : Inf), i < k → l[i]? = some d → bs[i]? = some b → b.loud = isLoud d.op) → k ≤ l.length → k ≤ bs.length → cntI bs k = ownD l k := by
  induction l with
  | nil => intro bs k _ hk _; have : k = 0 := by simpa using hk
           subst this; cases bs <;> rfl
  | cons d l ih =>
    intro bs k h hk hb
    cases bs with
    | nil => have : k = 0 := by simpa using hb
             subst this; rfl
    | cons b bs =>
      cases k with
      | zero => rfl
      | succ k =>
        show (if b.loud then 1 else 0) + cntI bs k = (if isLoud d.op then 1 else 0) + ownD l k
        rw [h 0 d b (by omega) rfl rfl, ih bs k (fun i d' b' hi h1 h2 => h (i + 1) d' b' (by omega) (by simpa using h1) (by simpa using h2)) (by simpa using hk) (by simpa using hb)]
theorem countLoud_cnt : ∀ (bs : List Inf), countLoud bs = cntI bs bs.length
  | [] => rfl
  | b :: bs => by
    show (match b.loud with | true => Nat.succ (countLoud bs) | false => countLoud bs) = (if b.loud then 1 else 0) + cntI bs bs.length
    rw [countLoud_cnt bs]
    cases b.loud <;> simp; omega
theorem infs_len (ops : Array Oper) : ∀ (os : List Oper) (ms : List Nat), ms.length = os.length → (infs P ops os ms).length = os.length
  | [], ms, _ => by cases ms <;> rfl
  | o :: os, [], h => by simp at h
  | o :: os, m :: ms, h => by
    show (infs P ops os ms).length + 1 = os.length + 1
    rw [infs_len ops os ms (by simpa using h)]

theorem plan_of {n : Nat} {ops : Array Oper} {ms : List Nat} {l : List DOp} (hm : masks [] 0 ops.toList = some ms) (ho : ordOk [] (infs P ops ops.toList ms) = true)
    (hl : dops P n ops (infs P ops ops.toList ms) (countLoud (infs P ops ops.toList ms)) 0 0 ops.toList (infs P ops ops.toList ms) = some l) : Plan P n ops l (fun i => (ms[i]?).getD 0) := by
  obtain ⟨m1, _, m3⟩ := masks_ok _ _ _ _ hm rfl
  have hlen : ms.length = ops.toList.length := by rw [m1]; omega
  have hinf := infs_ok (P := P) ops ops.toList ms hlen
  have hil := infs_len (P := P) ops ops.toList ms hlen
  obtain ⟨d1, d2⟩ := dops_ok _ _ _ _ _ _ _ _ _ hl
  have hget : ∀ (i : Nat) (o : Oper), ops[i]? = some o → ops.toList[i]? = some o := fun i o h => by simpa using h
  have hloud : ∀ (i : Nat) (d : DOp) (b : Inf), l[i]? = some d → (infs P ops ops.toList ms)[i]? = some b → b.loud = isLoud d.op := by
    intro i d b h1 h2
    have hlt : i < ops.toList.length := by rw [← d1]; exact (List.getElem?_eq_some_iff.mp h1).1
    obtain ⟨m, _, g2⟩ := hinf i _ (List.getElem?_eq_getElem hlt)
    obtain ⟨d', g', b', _, _, _, k4⟩ := d2 i _ (List.getElem?_eq_getElem hlt)
    rw [g2] at h2; cases h2
    rw [k4] at h1; cases h1
    rfl
  have hcnt : ∀ k, k ≤ l.length → cntI (infs P ops ops.toList ms) k = ownD l k := fun k hk =>
    cntI_own l _ k (fun i d b _ h1 h2 => hloud i d b h1 h2) hk (by rw [hil, ← d1]; exact hk)
  have hcl : countLoud (infs P ops ops.toList ms) = ownD l l.length := by
    rw [countLoud_cnt, hil, ← d1]; exact hcnt _ (Nat.le_refl _)
  refine ⟨by rw [d1, Array.length_toList], fun i o hi => ?_, fun i o hi e he hb => ?_, fun i o hi b => ?_, fun i j a b hi hj hij hc => ?_⟩
  · obtain ⟨d, g, b, k1, k2, k3, k4⟩ := d2 i o (hget i o hi)
    have hlt : i < l.length := (List.getElem?_eq_some_iff.mp k4).1
    refine ⟨_, k4, k2, k3, rfl, fun q hq hqm hall => ?_⟩
    obtain ⟨m, g1, g2⟩ := hinf i o (hget i o hi)
    rw [g2] at k1; cases k1
    rw [hcl, hcnt i (by omega)]
    simp only [Nat.zero_add]
    rw [feasFrom_ok _ _ _ _ _ 0 q (by omega) (by omega)]
    congr 1
    refine feasAt_ok _ _ _ _ _ fun j c hj hcl' => ?_
    have hlt' : j < ops.toList.length := by rw [← hil]; exact (List.getElem?_eq_some_iff.mp hj).1
    obtain ⟨m', q1, q2⟩ := hinf j _ (List.getElem?_eq_getElem hlt')
    rw [q2] at hj; cases hj
    have hop : ops[j]? = some (ops.toList[j]) := by
      rw [← Array.getElem?_toList]; exact List.getElem?_eq_getElem hlt'
    obtain ⟨r1, r2⟩ := hall j _ hop hcl'
    rw [Nat.zero_add, hcnt j (by rw [d1]; omega), Nat.zero_add]
    simp only [q1, g1, Option.getD_some] at r1 r2
    exact ⟨r1, r2⟩
  · obtain ⟨m, _, g2, _⟩ := m3 i o (hget i o hi)
    have := g2 e he hb
    omega
  · obtain ⟨m, g1, g2, g3⟩ := m3 i o (hget i o hi)
    rw [Nat.zero_add] at g1
    simp only [g1, Option.getD_some]
    rw [g3 b]
    constructor
    · rintro ⟨e, he, hb, k, hk, r⟩
      exact ⟨e, he, hb, by rw [hk]; exact r⟩
    · rintro ⟨e, he, hb, r⟩
      have hlt := g2 e he hb
      have hlt2 : e.on < ms.length := by
        have : i < ops.toList.length := (List.getElem?_eq_some_iff.mp (hget i o hi)).1
        omega
      refine ⟨e, he, hb, _, List.getElem?_eq_getElem hlt2, ?_⟩
      rw [List.getElem?_eq_getElem hlt2] at r
      exact r
  · obtain ⟨ma, a1, a2⟩ := hinf i a (hget i a hi)
    obtain ⟨mb, b1, b2⟩ := hinf j b (hget j b hj)
    simp only [b1, Option.getD_some]
    exact ordOk_ok _ [] ho j _ b2 i _ (by simpa using a2) (by simpa using hij) (clash_of hc)

/-! slots -/
def dstOf (ops : Array Oper) (k : Nat) : Option Tmp := (ops[k]?).bind (·.dst)
noncomputable def slotS (ops : Array Oper) (v : Nat → AV) (ρ0 : Tmps) (S : Nat → Bool) : Nat → Nat → Option AV
  | 0, t => T.getF 12 ρ0 t
  | k + 1, t => if S k = true ∧ dstOf ops k = some t then some (v k) else slotS ops v ρ0 S k t

section
variable {n : Nat} {ops : Array Oper} {l : List DOp} {mask : Nat → Nat} {cl : CallFn} {recs : List Rec} {vers : List H} {ρ : Nat → Tmps} {h : Nat → H} {v : Nat → AV}

theorem slot_all (pl : Plan P n ops l mask) (t : Trace cl l recs vers ρ h v) (s : Nat) : ∀ k, k ≤ l.length → T.getF 12 (ρ k) s = slotS ops v (ρ 0) (fun _ => true) k s
  | 0, _ => rfl
  | k + 1, hk => by
    have hlt : k < l.length := by omega
    have hops : k < ops.size := by rw [← pl.len]; exact hlt
    have hg := Array.getElem?_eq_getElem hops
    obtain ⟨d, h1, h2, _⟩ := pl.op k _ hg
    rw [t.put k d h1]
    have ih := slot_all pl t s k (by omega)
    unfold slotS dstOf
    rw [hg]
    simp only [Option.bind_some, true_and]
    rcases dst_cases h2 with ⟨e1, e2⟩ | ⟨u, e1, _, e3, e4⟩
    · rw [e1, e2, put_none, if_neg (by simp)]; exact ih
    · rw [e1, e4, put_some, T.setP_way _ _ _ e3]
      by_cases hs : u = s
      · subst hs; rw [if_pos rfl, T.getF_setF_some _ _ _ _ (Nat.lt_of_lt_of_le (Nat.succ_lt_succ e3) (by decide))]
      · rw [if_neg (by simpa using hs), T.getF_setF_ne _ _ _ _ _ (Ne.symm hs)]; exact ih
theorem slot_before {S : Nat → Bool} {ρ0 : Tmps} {s : Nat} : ∀ k, (∀ j, j < k → dstOf ops j = some s → S j = true) → slotS ops v ρ0 S k s = slotS ops v ρ0 (fun _ => true) k s
  | 0, _ => rfl
  | k + 1, hs => by
    unfold slotS
    rw [slot_before k (fun j hj => hs j (by omega))]
    by_cases hd : dstOf ops k = some s
    · rw [if_pos ⟨hs k (by omega) hd, hd⟩, if_pos ⟨rfl, hd⟩]
    · rw [if_neg (fun h => hd h.2), if_neg (fun h => hd h.2)]
theorem slot_after {S : Nat → Bool} {ρ0 : Tmps} {s i : Nat} : ∀ k, i ≤ k → (∀ j, i ≤ j → j < k → dstOf ops j = some s → S j = false) → slotS ops v ρ0 S k s = slotS ops v ρ0 S i s
  | 0, hi, _ => by have : i = 0 := by omega
                   subst this; rfl
  | k + 1, hi, hs => by
    by_cases e : i = k + 1
    · subst e; rfl
    · rw [← slot_after k (by omega) (fun j h1 h2 => hs j h1 (by omega))]
      show (if S k = true ∧ dstOf ops k = some s then some (v k) else slotS ops v ρ0 S k s) = _
      rw [if_neg]
      rintro ⟨h1, h2⟩
      rw [hs k (by omega) (by omega) h2] at h1; cases h1
theorem slot_other {S : Nat → Bool} {ρ0 : Tmps} {s i : Nat} (hd : dstOf ops i ≠ some s) : ∀ k, slotS ops v ρ0 (fun j => j == i || S j) k s = slotS ops v ρ0 S k s
  | 0 => rfl
  | k + 1 => by
    unfold slotS
    rw [slot_other hd k]
    by_cases e : k = i
    · subst e; rw [if_neg (fun h => hd h.2), if_neg (fun h => hd h.2)]
    · have : (k == i) = false := by simpa using e
      simp only [this, Bool.false_or]
end
end Go.Ax
