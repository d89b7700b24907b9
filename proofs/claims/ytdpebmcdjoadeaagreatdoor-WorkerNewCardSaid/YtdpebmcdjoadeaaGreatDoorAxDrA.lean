/- Helper text: regions that draw their order. First part: equal values, the run in the order of the text. -/
import Derived.Test.YtdpebmcdjoadeaaGreatDoorAxFun
namespace Go.Ax
variable {E : Env} {N : Nat} {μ μ' : Mu} {P : Program}

theorem listEq_t {f : AV → AV → Bool} (hf : ∀ a b, f a b = true → a = b) : ∀ (l m : List AV), listEq f l m = true → l = m
  | [], [], _ => rfl
  | [], _ :: _, h => by cases h
  | _ :: _, [], h => by cases h
  | a :: l, b :: m, h => by
    unfold listEq at h
    split at h
    · rename_i e; rw [hf _ _ e, listEq_t hf l m h]
    · cases h
theorem eqAV_t : ∀ (n : Nat) (a b : AV), eqAV n a b = true → a = b
  | 0, _, _, h => by cases h
  | n + 1, a, b, h => by
    have ih := eqAV_t n
    unfold eqAV at h
    split at h
    · rw [boolEq_eq] at h; rw [eq_of_beq h]
    · split at h
      · rename_i e; rw [kindEq_t e]; rw [eqB_eq] at h; rw [eq_of_beq h]
      · cases h
    · rw [bytesEq_eq] at h; rw [eq_of_beq h]
    · split at h
      · rename_i e; rw [Nat.eq_of_beq_eq_true e, Nat.eq_of_beq_eq_true h]
      · cases h
    any_goals rfl
    · split at h
      · rename_i e1
        split at h
        · rename_i e2
          split at h
          · rename_i e3
            split at h
            · rename_i e4
              split at h
              · rename_i e5
                rw [boolEq_eq] at h
                rw [Nat.eq_of_beq_eq_true e1, Nat.eq_of_beq_eq_true e2, Nat.eq_of_beq_eq_true e3, Nat.eq_of_beq_eq_true e4, Nat.eq_of_beq_eq_true e5, eq_of_beq h]
              · cases h
            · cases h
          · cases h
        · cases h
      · cases h
    · rw [Nat.eq_of_beq_eq_true h]
    · split at h
      · rename_i e1
        split at h
        · rename_i e2
          rw [Nat.eq_of_beq_eq_true e1, listEq_t ih _ _ e2, listEq_t ih _ _ h]
        · cases h
      · cases h
    · split at h
      · rename_i e; rw [Nat.eq_of_beq_eq_true e, ih _ _ h]
      · cases h
    · rw [listEq_t ih _ _ h]
    · rw [listEq_t ih _ _ h]
    · rw [Nat.eq_of_beq_eq_true h]
    · cases h

def On (o : DOp) (ρ : Tmps) : Prop := match o.guard with
  | none => True
  | some (p, w) => wantA ρ p w = some true

/-- one operation in the order of the text -/
inductive StepR (cl : CallFn) (o : DOp) (ρ : Tmps) (h : H) : AV → H → Prop
  | skip {p : List Bool} {w : Bool} (hg : o.guard = some (p, w)) (hw : wantA ρ p w = some false) : StepR cl o ρ h (.tuple []) h
  | pure {f : Tmps → Option AV} {v : AV} (on : On o ρ) (ho : o.op = .pure f) (hf : f ρ = some v) : StepR cl o ρ h v h
  | read {f : Tmps → H → Option AV} {v : AV} (on : On o ρ) (ho : o.op = .read f) (hf : f ρ h = some v) : StepR cl o ρ h v h
  | new {f : Tmps → Option NB} {nb : NB} (on : On o ρ) (ho : o.op = .new f) (hf : f ρ = some nb) : StepR cl o ρ h (nb.val h.next) (newObj (nb.blk h.next) h)
  | loud {f : Tmps → H → LR} {v : AV} {h1 : H} (on : On o ρ) (ho : o.op = .loud f) (hf : runLoud f cl ρ h = .ok v h1) : StepR cl o ρ h v h1

theorem rec1_ok {r : Rec} {d : DR} {ρ' : Tmps} {h' : H} {recs : List Rec} {vers : List H} (e : d.rec1 r = .ok ρ' h' recs vers) : ∃ recs1, d = .ok ρ' h' recs1 vers ∧ recs = r :: recs1 := by
  cases d with
  | ok => cases e; exact ⟨_, rfl, rfl⟩
  | err => cases e
theorem ver1_ok {h0 : H} {d : DR} {ρ' : Tmps} {h' : H} {recs : List Rec} {vers : List H} (e : d.ver1 h0 = .ok ρ' h' recs vers) : ∃ vers1, d = .ok ρ' h' recs vers1 ∧ vers = h0 :: vers1 := by
  cases d with
  | ok => cases e; exact ⟨_, rfl, rfl⟩
  | err => cases e

theorem drawOp_step {cl : CallFn} {o : DOp} {os : List DOp} {ρ ρ' : Tmps} {h h' : H} {recs : List Rec} {vers : List H} (on : On o ρ) (e : drawOp o (drawGo cl os) cl ρ h = .ok ρ' h' recs vers) :
    ∃ v h1 recs1 vers1, StepR cl o ρ h v h1 ∧ drawGo cl os (put o.dst v ρ) h1 = .ok ρ' h' recs1 vers1 ∧ vers = (if isLoud o.op then h :: vers1 else vers1) ∧ (∀ r, r ∈ recs1 → r ∈ recs) ∧
      (∀ f, On o ρ → o.op = .read f → Rec.read (fun h => f ρ h) v o.feas ∈ recs) := by
  unfold drawOp at e
  split at e
  · rename_i f ho
    split at e
    · rename_i v hv
      exact ⟨v, h, recs, vers, .pure on ho hv, e, by rw [ho]; simp [isLoud], fun _ h => h, fun g _ hg => by rw [ho] at hg; cases hg⟩
    · cases e
  · rename_i f ho
    split at e
    · rename_i v hv
      obtain ⟨recs1, e1, rfl⟩ := rec1_ok e
      exact ⟨v, h, recs1, vers, .read on ho hv, e1, by rw [ho]; simp [isLoud], fun _ h => List.mem_cons_of_mem _ h, fun g _ hg => by rw [ho] at hg; cases hg; exact List.mem_cons_self⟩
    · cases e
  · rename_i f ho
    split at e
    · rename_i nb hv
      exact ⟨_, _, recs, vers, .new on ho hv, e, by rw [ho]; simp [isLoud], fun _ h => h, fun g _ hg => by rw [ho] at hg; cases hg⟩
    · cases e
  · rename_i f ho
    split at e
    · rename_i v h1 hv
      obtain ⟨vers1, e1, rfl⟩ := ver1_ok e
      exact ⟨v, h1, recs, vers1, .loud on ho hv, e1, by rw [ho]; simp [isLoud], fun _ h => h, fun g _ hg => by rw [ho] at hg; cases hg⟩
    · cases e
  · cases e
theorem draw_step {cl : CallFn} {o : DOp} {os : List DOp} {ρ ρ' : Tmps} {h h' : H} {recs : List Rec} {vers : List H} (e : drawGo cl (o :: os) ρ h = .ok ρ' h' recs vers) :
    ∃ v h1 recs1 vers1, StepR cl o ρ h v h1 ∧ drawGo cl os (put o.dst v ρ) h1 = .ok ρ' h' recs1 vers1 ∧ vers = (if isLoud o.op then h :: vers1 else vers1) ∧ (∀ r, r ∈ recs1 → r ∈ recs) ∧
      (∀ f, On o ρ → o.op = .read f → Rec.read (fun h => f ρ h) v o.feas ∈ recs) := by
  unfold drawGo at e
  split at e
  · rename_i hg
    exact drawOp_step (by unfold On; rw [hg]; trivial) e
  · rename_i p w hg
    split at e
    · rename_i hw
      exact drawOp_step (by unfold On; rw [hg]; exact hw) e
    · rename_i hw
      have hoff : ¬ On o ρ := by
        unfold On; rw [hg]; simp only; rw [hw]; intro h; cases h
      split at e
      · rename_i f ho
        obtain ⟨vers1, e1, rfl⟩ := ver1_ok e
        exact ⟨.tuple [], h, recs, vers1, .skip hg hw, e1, by rw [ho]; simp [isLoud], fun _ h => h, fun g hon => absurd hon hoff⟩
      · rename_i hne
        refine ⟨.tuple [], h, recs, vers, .skip hg hw, e, ?_, fun _ h => h, fun g hon => absurd hon hoff⟩
        have : isLoud o.op = false := by
          cases ho : o.op with
          | loud f => exact absurd ho (hne f)
          | _ => rfl
        rw [this]; simp
    · cases e

/-- how many loud operations stand before place i -/
def ownD : List DOp → Nat → Nat
  | [], _ => 0
  | _ :: _, 0 => 0
  | o :: os, i + 1 => (if isLoud o.op then 1 else 0) + ownD os i

structure Trace (cl : CallFn) (os : List DOp) (recs : List Rec) (vers : List H) (ρ : Nat → Tmps) (h : Nat → H) (v : Nat → AV) : Prop where
  step : ∀ i o, os[i]? = some o → StepR cl o (ρ i) (h i) (v i) (h (i + 1))
  put : ∀ i o, os[i]? = some o → ρ (i + 1) = put o.dst (v i) (ρ i)
  read : ∀ i o f, os[i]? = some o → On o (ρ i) → o.op = .read f → Rec.read (fun h => f (ρ i) h) (v i) o.feas ∈ recs
  ver : ∀ i o, os[i]? = some o → isLoud o.op = true → vers[ownD os i]? = some (h i)
  last : vers[ownD os os.length]? = some (h os.length)

theorem trace_of {cl : CallFn} : ∀ (os : List DOp) {ρ ρ' : Tmps} {h h' : H} {recs : List Rec} {vers : List H}, drawGo cl os ρ h = .ok ρ' h' recs vers →
    ∃ ρs hs vs, Trace cl os recs vers ρs hs vs ∧ ρs 0 = ρ ∧ hs 0 = h ∧ ρs os.length = ρ' ∧ hs os.length = h'
  | [], ρ, ρ', h, h', recs, vers, e => by
    cases e
    exact ⟨fun _ => ρ, fun _ => h, fun _ => .snil, ⟨fun i o ho => by simp at ho, fun i o ho => by simp at ho, fun i o f ho => by simp at ho, fun i o ho => by simp at ho, rfl⟩, rfl, rfl, rfl, rfl⟩
  | o :: os, ρ, ρ', h, h', recs, vers, e => by
    obtain ⟨v, h1, recs1, vers1, hs, e1, hv, hr, hrd⟩ := draw_step e
    obtain ⟨ρs, hs', vs, t, a1, a2, a3, a4⟩ := trace_of os e1
    have hver : ∀ k, vers[(if isLoud o.op then 1 else 0) + k]? = vers1[k]? := by
      intro k
      rw [hv]
      split
      · rw [Nat.add_comm, List.getElem?_cons_succ]
      · rw [Nat.zero_add]
    refine ⟨fun | 0 => ρ | i + 1 => ρs i, fun | 0 => h | i + 1 => hs' i, fun | 0 => v | i + 1 => vs i, ⟨?_, ?_, ?_, ?_, ?_⟩, rfl, rfl, a3, a4⟩
    · intro i x hx
      cases i with
      | zero => simp at hx; subst hx; show StepR cl o ρ h v (hs' 0); rw [a2]; exact hs
      | succ i => exact t.step i x (by simpa using hx)
    · intro i x hx
      cases i with
      | zero => simp at hx; subst hx; exact a1
      | succ i => exact t.put i x (by simpa using hx)
    · intro i x f hx hon ho
      cases i with
      | zero => simp at hx; subst hx; exact hrd f hon ho
      | succ i => exact hr _ (t.read i x f (by simpa using hx) hon ho)
    · intro i x hx hl
      cases i with
      | zero => simp at hx; subst hx; show vers[0]? = some h; rw [hv, if_pos hl]; rfl
      | succ i => show vers[(if isLoud o.op then 1 else 0) + ownD os i]? = _; rw [hver]; exact t.ver i x (by simpa using hx) hl
    · show vers[(if isLoud o.op then 1 else 0) + ownD os os.length]? = _
      rw [hver]; exact t.last

theorem checkRecs_mem {vers : List H} : ∀ (recs : List Rec), checkRecs vers recs = true → ∀ f v fs, Rec.read f v fs ∈ recs → checkAt (readOk f v) fs vers = true
  | [], _, f, v, fs, hm => by cases hm
  | .read g u gs :: rs, h, f, v, fs, hm => by
    unfold checkRecs at h
    split at h
    · rename_i h1
      cases hm with
      | head => exact h1
      | tail _ hm => exact checkRecs_mem rs h f v fs hm
    · cases h
theorem checkAt_get {q : H → Bool} : ∀ (fs : List Bool) (vers : List H) (k : Nat) (h : H), checkAt q fs vers = true → fs[k]? = some true → vers[k]? = some h → q h = true
  | [], _, k, h, _, hf, _ => by simp at hf
  | b :: fs, [], k, h, _, _, hv => by simp at hv
  | true :: fs, x :: xs, k, h, hc, hf, hv => by
    unfold checkAt at hc
    split at hc
    · rename_i hq
      cases k with
      | zero => simp at hv; subst hv; exact hq
      | succ k => exact checkAt_get fs xs k h hc (by simpa using hf) (by simpa using hv)
    · cases hc
  | false :: fs, x :: xs, k, h, hc, hf, hv => by
    unfold checkAt at hc
    cases k with
    | zero => simp at hf
    | succ k => exact checkAt_get fs xs k h hc (by simpa using hf) (by simpa using hv)
theorem readOk_t {f : H → Option AV} {v : AV} {h : H} (e : readOk f v h = true) : f h = some v := by
  unfold readOk at e
  split at e
  · rename_i u hu; rw [hu, eqAV_t _ _ _ e]
  · cases e
end Go.Ax
