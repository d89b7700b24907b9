/- Helper text: how the abstract executor's values and memory stand to the model's. -/
import Derived.Test.YtdpebmcdjoadeaaGreatDoorAxDef
import Derived.Calls
import Derived.Orders
namespace Go.Ax

/-- where a block of the executor lies: the model's block, what is taken off an offset, how many cells the model's block has -/
structure Loc where
  B : Nat
  s : Nat
  n : Nat
abbrev Mu := Nat → Option Loc

/-- a value of one cell -/
def one (v : Value) : Bool := match v with | .agg _ | .tuple _ => false | _ => true
/-- values that are carried along and never looked into -/
structure Env where
  val : Nat → Value
  one : ∀ i, one (val i) = true

mutual
inductive VRel (E : Env) (μ : Mu) : AV → Value → Prop
  | bool (b : Bool) : VRel E μ (.bool b) (.bool b)
  | int (k : IntKind) (n : Int) : VRel E μ (.int k n) (.int k n)
  | str (s : ByteArray) : VRel E μ (.str s.data.toList) (.string s)
  | ptr {b o : Nat} {x : Loc} (h : μ b = some x) (hs : x.s ≤ o) : VRel E μ (.ptr b o) (.pointer (some ⟨x.B, o - x.s, none⟩))
  | nilp : VRel E μ .nilp (.pointer none)
  | slice {b o len cap z cap' : Nat} {loose : Bool} {x : Loc} (h : μ b = some x) (hs : x.s ≤ o) (hl : len ≤ cap) (hc : cap ≤ cap') (ht : loose = false → cap' = cap)
      (hn : o - x.s + cap' * z ≤ x.n) : VRel E μ (.slice b o len cap z loose) (.slice (some ⟨x.B, o - x.s, none⟩) len cap')
  | snil : VRel E μ .snil (.slice none 0 0)
  | map {b : Nat} {x : Loc} (h : μ b = some x) : VRel E μ (.map b) (.map (some x.B))
  | mapnil : VRel E μ .mapnil (.map none)
  | func {f : FuncId} {a c : List AV} {a' c' : List Value} (ha : LRel E μ a a') (hc : LRel E μ c c') : VRel E μ (.func f a c) (.func (.func f) a'.toArray c'.toArray)
  | nilf : VRel E μ .nilf .nilFunc
  | iface {t : TypeId} {v : AV} {v' : Value} (h : VRel E μ v v') : VRel E μ (.iface t v) (.iface t v')
  | nili : VRel E μ .nili .nilIface
  | agg {cs : List AV} {cs' : List Value} (h : LRel E μ cs cs') : VRel E μ (.agg cs) (.agg cs'.toArray)
  | tuple {cs : List AV} {cs' : List Value} (h : LRel E μ cs cs') : VRel E μ (.tuple cs) (.tuple cs'.toArray)
  | opq (i : Nat) : VRel E μ (.opq i) (E.val i)
inductive LRel (E : Env) (μ : Mu) : List AV → List Value → Prop
  | nil : LRel E μ [] []
  | cons {v : AV} {v' : Value} {vs : List AV} {vs' : List Value} (h : VRel E μ v v') (hs : LRel E μ vs vs') : LRel E μ (v :: vs) (v' :: vs')
end

variable {E : Env} {μ μ' μ'' : Mu}

def Mu.le (μ μ' : Mu) : Prop := ∀ b x, μ b = some x → μ' b = some x

mutual
theorem VRel.mono (hm : Mu.le μ μ') : ∀ {v : AV} {v' : Value}, VRel E μ v v' → VRel E μ' v v'
  | _, _, .bool b => .bool b
  | _, _, .int k n => .int k n
  | _, _, .str s => .str s
  | _, _, .ptr h hs => .ptr (hm _ _ h) hs
  | _, _, .nilp => .nilp
  | _, _, .slice h hs hl hc ht hn => .slice (hm _ _ h) hs hl hc ht hn
  | _, _, .snil => .snil
  | _, _, .map h => .map (hm _ _ h)
  | _, _, .mapnil => .mapnil
  | _, _, .func ha hc => .func (LRel.mono hm ha) (LRel.mono hm hc)
  | _, _, .nilf => .nilf
  | _, _, .iface h => .iface (VRel.mono hm h)
  | _, _, .nili => .nili
  | _, _, .agg h => .agg (LRel.mono hm h)
  | _, _, .tuple h => .tuple (LRel.mono hm h)
  | _, _, .opq i => .opq i
theorem LRel.mono (hm : Mu.le μ μ') : ∀ {v : List AV} {v' : List Value}, LRel E μ v v' → LRel E μ' v v'
  | _, _, .nil => .nil
  | _, _, .cons h hs => .cons (VRel.mono hm h) (LRel.mono hm hs)
end

theorem LRel.length {l : List AV} {l' : List Value} (h : LRel E μ l l') : l'.length = l.length := by
  match h with
  | .nil => rfl
  | .cons _ hs => simp [LRel.length hs]
theorem LRel.append {l m : List AV} {l' m' : List Value} (h : LRel E μ l l') (k : LRel E μ m m') : LRel E μ (l ++ m) (l' ++ m') := by
  match h with
  | .nil => exact k
  | .cons h hs => exact .cons h (LRel.append hs k)
theorem LRel.drop : ∀ {l : List AV} {l' : List Value} (n : Nat), LRel E μ l l' → LRel E μ (l.drop n) (l'.drop n)
  | _, _, 0, h => h
  | _, _, _ + 1, .nil => .nil
  | _, _, n + 1, .cons _ hs => LRel.drop n hs
theorem LRel.take : ∀ {l : List AV} {l' : List Value} (n : Nat), LRel E μ l l' → LRel E μ (l.take n) (l'.take n)
  | _, _, 0, _ => .nil
  | _, _, _ + 1, .nil => .nil
  | _, _, n + 1, .cons h hs => .cons h (LRel.take n hs)
theorem LRel.nth : ∀ {l : List AV} {l' : List Value} {i : Nat} {v : AV}, LRel E μ l l' → nth l i = some v → ∃ v', l'[i]? = some v' ∧ VRel E μ v v'
  | _, _, 0, _, .cons h _, e => by cases e; exact ⟨_, rfl, h⟩
  | _, _, i + 1, _, .cons _ hs, e => by
    obtain ⟨v', h1, h2⟩ := LRel.nth (i := i) hs e
    exact ⟨v', by simpa using h1, h2⟩
theorem LRel.get? : ∀ {l : List AV} {l' : List Value} {i : Nat} {v : AV}, LRel E μ l l' → l[i]? = some v → ∃ v', l'[i]? = some v' ∧ VRel E μ v v'
  | _, _, 0, _, .cons h _, e => by simp at e; subst e; exact ⟨_, rfl, h⟩
  | _, _, i + 1, _, .cons _ hs, e => by
    obtain ⟨v', h1, h2⟩ := LRel.get? (i := i) hs (by simpa using e)
    exact ⟨v', by simpa using h1, h2⟩

/-- map entries -/
inductive ERel (E : Env) (μ : Mu) : List (AV × AV × Nat) → List MapEntry → Prop
  | nil : ERel E μ [] []
  | cons {k v : AV} {b : Nat} {k' v' : Value} {es : List (AV × AV × Nat)} {es' : List MapEntry} (hk : VRel E μ k k') (hv : VRel E μ v v') (hs : ERel E μ es es') :
      ERel E μ ((k, v, b) :: es) ({ key := k', val := v', born := b } :: es')
theorem ERel.mono (hm : Mu.le μ μ') : ∀ {l : List (AV × AV × Nat)} {l' : List MapEntry}, ERel E μ l l' → ERel E μ' l l'
  | _, _, .nil => .nil
  | _, _, .cons hk hv hs => .cons (hk.mono hm) (hv.mono hm) (ERel.mono hm hs)
theorem ERel.length : ∀ {l : List (AV × AV × Nat)} {l' : List MapEntry}, ERel E μ l l' → l'.length = l.length
  | _, _, .nil => rfl
  | _, _, .cons _ _ hs => by simp [ERel.length hs]
theorem ERel.append : ∀ {l m : List (AV × AV × Nat)} {l' m' : List MapEntry}, ERel E μ l l' → ERel E μ m m' → ERel E μ (l ++ m) (l' ++ m')
  | _, _, _, _, .nil, k => k
  | _, _, _, _, .cons hk hv hs, k => .cons hk hv (ERel.append hs k)

/-- a cell of a block is known -/
def Cell (sz : Nat) (cs : T AV) (s o : Nat) (v : AV) : Prop := s ≤ o ∧ o < sz ∧ T.get cs o = some v

/-- a block and the model's object -/
def BRel (E : Env) (μ : Mu) (s n : Nat) : Blk → Obj → Prop
  | .cells sz cs _, o => ∃ arr e fz, o = .cells arr e fz ∧ arr.size = n ∧ sz ≤ s + n ∧ (∀ i, i < n → ¬ (fz.1 ≤ i ∧ i < fz.2)) ∧
      ∀ p v, Cell sz cs s p v → ∃ v', arr[p - s]? = some v' ∧ VRel E μ v v'
  | .map es c, o => ∃ ents, o = .map ents c ∧ ERel E μ es ents.toList
theorem BRel.mono (hm : Mu.le μ μ') {s n : Nat} : ∀ {b : Blk} {o : Obj}, BRel E μ s n b o → BRel E μ' s n b o
  | .cells .., _, ⟨arr, e, fz, h1, h2, h3, h4, h5⟩ => ⟨arr, e, fz, h1, h2, h3, h4, fun p v hc => let ⟨v', a, b⟩ := h5 p v hc; ⟨v', a, b.mono hm⟩⟩
  | .map .., _, ⟨ents, h1, h2⟩ => ⟨ents, h1, h2.mono hm⟩

/-- two blocks of the executor over one block of the model are of one root, and on its list -/
def Shares (μ : Mu) (h : H) : Prop :=
  ∀ b b' x x' sz sz' cs cs' root root', b ≠ b' → μ b = some x → μ b' = some x' → x.B = x'.B →
    T.get h.heap b = some (.cells sz cs root) → T.get h.heap b' = some (.cells sz' cs' root') →
    root = root' ∧ x.s = x'.s ∧ ∃ l, T.get h.sibs root = some l ∧ b ∈ l ∧ b' ∈ l
def Alone (μ : Mu) (h : H) : Prop :=
  ∀ b b' x x' es c es' c', μ b = some x → μ b' = some x' → x.B = x'.B → T.get h.heap b = some (.map es c) → T.get h.heap b' = some (.map es' c') → b = b'

structure Rel (E : Env) (N : Nat) (μ : Mu) (h : H) (w : World) : Prop where
  own : ∀ b x, μ b = some x → N ≤ x.B ∧ x.B < w.heap.size
  blk : ∀ b x k, μ b = some x → T.get h.heap b = some k → ∃ o, w.heap[x.B]? = some o ∧ BRel E μ x.s x.n k o
  shares : Shares μ h
  maps : Alone μ h
  fresh : ∀ b, h.next ≤ b → T.get h.heap b = none

/-- the numbers from lo on and below hi are free -/
def Free (μ : Mu) (lo hi : Nat) : Prop := ∀ b x, μ b = some x → b < lo ∨ hi ≤ b
theorem Free.mono {lo hi lo' hi' : Nat} (h : Free μ lo hi) (h1 : lo ≤ lo') (h2 : hi' ≤ hi) : Free μ lo' hi' := fun b x hb => by
  have := h b x hb; omega

structure Ext (μ : Mu) (h : H) (w : World) (μ' : Mu) (h' : H) (w' : World) : Prop where
  le : Mu.le μ μ'
  free : Free μ h.next h'.next
  dom : ∀ b x, μ' b = some x → μ b = some x ∨ (h.next ≤ b ∧ b < h'.next)
  new : ∀ b x, μ' b = some x → μ b = none → w.heap.size ≤ x.B ∨ ∃ b0 x0, μ b0 = some x0 ∧ x0.B = x.B ∧ T.get h.heap b0 ≠ none
  next : h.next ≤ h'.next
  absent : ∀ b, T.get h.heap b = none → (b < h.next ∨ h'.next ≤ b) → T.get h'.heap b = none
  kept : ∀ B, B < w.heap.size → (∀ b x, μ b = some x → x.B = B → T.get h.heap b = none) → w'.heap[B]? = w.heap[B]?
  size : w.heap.size ≤ w'.heap.size
  os : w'.os = w.os
  tape : w'.tape = w.tape
  output : w'.output = w.output

theorem Ext.refl (μ : Mu) (h : H) (w : World) : Ext μ h w μ h w :=
  ⟨fun _ _ e => e, fun b _ _ => Nat.lt_or_ge b h.next, fun _ _ e => .inl e, fun _ _ e e' => (by rw [e] at e'; cases e'), Nat.le_refl _, fun _ e _ => e, fun _ _ _ => rfl, Nat.le_refl _, rfl, rfl, rfl⟩

theorem Ext.trans {h h1 h2 : H} {w w1 w2 : World} (a : Ext μ h w μ' h1 w1) (b : Ext μ' h1 w1 μ'' h2 w2) : Ext μ h w μ'' h2 w2 where
  le := fun x y e => b.le _ _ (a.le _ _ e)
  free := fun x y e => by
    have h1 := a.free x y e
    have h2 := b.free x y (a.le _ _ e)
    omega
  dom := fun x y e => by
    rcases b.dom x y e with e | ⟨e1, e2⟩
    · rcases a.dom x y e with e | ⟨e1, e2⟩
      · exact .inl e
      · exact .inr ⟨e1, Nat.lt_of_lt_of_le e2 b.next⟩
    · exact .inr ⟨Nat.le_trans a.next e1, e2⟩
  new := fun x y e e0 => by
    cases h1' : μ' x with
    | some z =>
      have := b.le _ _ h1'
      rw [this] at e; cases e
      exact a.new x y h1' e0
    | none =>
      rcases b.new x y e h1' with h | ⟨b0, x0, h1, h2, h3⟩
      · exact .inl (Nat.le_trans a.size h)
      · cases h0 : μ b0 with
        | some z =>
          have := a.le _ _ h0
          rw [this] at h1; cases h1
          by_cases hn : T.get h.heap b0 = none
          · exact absurd (a.absent b0 hn (a.free b0 _ h0)) h3
          · exact .inr ⟨b0, x0, h0, h2, hn⟩
        | none =>
          rcases a.new b0 x0 h1 h0 with h | ⟨b1, x1, k1, k2, k3⟩
          · exact .inl (by omega)
          · exact .inr ⟨b1, x1, k1, by omega, k3⟩
  next := Nat.le_trans a.next b.next
  absent := fun x e hx => b.absent x (a.absent x e (by have := b.next; omega)) (by have := a.next; omega)
  kept := fun B hB hk => by
    rw [b.kept B (Nat.lt_of_lt_of_le hB a.size) ?_, a.kept B hB hk]
    intro x y e eB
    cases h0 : μ x with
    | some z =>
      have := a.le _ _ h0
      rw [this] at e; cases e
      exact a.absent x (hk x _ h0 eB) (a.free x _ h0)
    | none =>
      rcases a.new x y e h0 with h | ⟨b0, x0, h1, h2, h3⟩
      · omega
      · exact absurd (hk b0 x0 h1 (by omega)) h3
  size := Nat.le_trans a.size b.size
  os := b.os.trans a.os
  tape := b.tape.trans a.tape
  output := b.output.trans a.output
end Go.Ax
