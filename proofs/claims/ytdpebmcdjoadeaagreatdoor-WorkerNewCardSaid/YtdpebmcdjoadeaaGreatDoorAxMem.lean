/- Helper text: the executor's memory operations against the model's. -/
import Derived.Test.YtdpebmcdjoadeaaGreatDoorAxRel
import Derived.Below
namespace Go.Ax
open Go.RowKit
variable {E : Env} {N : Nat} {μ μ' : Mu} {P : Program}

/-! ## the model's stores and loads over one block -/
def writeArr : Array Value → Nat → List Value → Array Value
  | c, _, [] => c
  | c, off, v :: vs => writeArr (c.setIfInBounds off v) (off + 1) vs
theorem writeArr_size : ∀ (vs : List Value) (c : Array Value) (off : Nat), (writeArr c off vs).size = c.size
  | [], _, _ => rfl
  | v :: vs, c, off => by simp [writeArr, writeArr_size vs]
theorem writeArr_get : ∀ (vs : List Value) (c : Array Value) (off i : Nat), off + vs.length ≤ c.size →
    (writeArr c off vs)[i]? = if off ≤ i ∧ i < off + vs.length then vs[i - off]? else c[i]?
  | [], c, off, i, _ => by
    rw [if_neg (by simp only [List.length_nil]; omega)]; rfl
  | v :: vs, c, off, i, h => by
    simp only [List.length_cons] at h
    simp only [writeArr]
    rw [writeArr_get vs _ _ _ (by simp; omega)]
    by_cases h1 : off + 1 ≤ i ∧ i < off + 1 + vs.length
    · rw [if_pos h1, if_pos (by simp; omega)]
      have : i - off = (i - (off + 1)) + 1 := by omega
      rw [this]; simp
    · rw [if_neg h1]
      by_cases h2 : i = off
      · subst h2
        rw [if_pos (by simp), Array.getElem?_setIfInBounds_self_of_lt (by omega)]
        simp
      · rw [if_neg (by simp; omega), Array.getElem?_setIfInBounds_ne (by omega)]


/-- one block has turned into o; all else is as it was -/
structure Turned (w : World) (B : Nat) (o : Obj) (w' : World) : Prop where
  at_ : w'.heap[B]? = some o
  other : ∀ B', B' ≠ B → w'.heap[B']? = w.heap[B']?
  size : w'.heap.size = w.heap.size
  os : w'.os = w.os
  tape : w'.tape = w.tape
  output : w'.output = w.output
theorem Turned.refl {w : World} {B : Nat} {o : Obj} (h : w.heap[B]? = some o) : Turned w B o w := ⟨h, fun _ _ => rfl, rfl, rfl, rfl, rfl⟩
theorem Turned.trans {w w1 w2 : World} {B : Nat} {o o' : Obj} (a : Turned w B o w1) (b : Turned w1 B o' w2) : Turned w B o' w2 :=
  ⟨b.at_, fun B' h => (b.other B' h).trans (a.other B' h), b.size.trans a.size, b.os.trans a.os, b.tape.trans a.tape, b.output.trans a.output⟩

theorem setCell_turned {w : World} {B off : Nat} {arr : Array Value} {e : TypeId} {fz : Nat × Nat} (h : w.heap[B]? = some (.cells arr e fz)) (v : Value) :
    Turned w B (.cells (arr.setIfInBounds off v) e fz) (w.setCell ⟨B, off, none⟩ v) := by
  refine ⟨?_, ?_, ?_, rfl, rfl, rfl⟩
  · simp [World.setCell, Array.getElem?_modify, h]
  · intro B' hB
    simp only [World.setCell, Array.getElem?_modify]
    rw [if_neg (fun e => hB e.symm)]
  · simp [World.setCell]
theorem cell?_of {w : World} {B off : Nat} {arr : Array Value} {e : TypeId} {fz : Nat × Nat} (h : w.heap[B]? = some (.cells arr e fz)) :
    w.cell? ⟨B, off, none⟩ = arr[off]? := by
  simp [World.cell?, h]
theorem frozen?_of {w : World} {B off : Nat} {arr : Array Value} {e : TypeId} {fz : Nat × Nat} (h : w.heap[B]? = some (.cells arr e fz)) :
    w.frozen? ⟨B, off, none⟩ = (decide (fz.1 ≤ off) && decide (off < fz.2)) := by
  simp [World.frozen?, h]
theorem run_store {w : World} {a : Addr} {u v : Value} (hv : one v = true) (hc : w.cell? a = some u) (hf : w.frozen? a = false) :
    (store a v).run P w = .ok () (w.setCell a v) := by
  cases v <;> simp [one] at hv <;> simp [store, Sem.run, hc, hf]
theorem bind_run {α β : Type} (x : Sem α) (f : α → Sem β) (w : World) : (x >>= f).run P w = match x.run P w with
    | .ok a w' => (f a).run P w'
    | .halt h w' => .halt h w' := by
  show (Sem.bind x f).run P w = _
  induction x generalizing w with
  | pure a => rfl
  | load m a k ih =>
    simp only [Sem.bind, Sem.run]
    cases w.cell? a with
    | some v => exact ih v w
    | none =>
      simp only
      cases w.farLoad P a (m == .atomic) with
      | ok r => exact ih r.1 w
      | error h => rfl
  | store m a v k ih =>
    cases v
    case agg => rfl
    case tuple => rfl
    all_goals
      simp only [Sem.bind, Sem.run]
      cases w.cell? a with
      | some u =>
        simp only
        split
        · rfl
        · exact ih _
      | none =>
        simp only
        cases w.farStore P a _ (m == .atomic) with
        | ok r => exact ih r.1
        | error h => rfl
  | new o k ih => exact ih _ _
  | shape r k ih => exact ih _ _
  | freeze a n k ih => exact ih _
  | frozen a k ih => exact ih _ _
  | getObj r k ih =>
    simp only [Sem.bind, Sem.run]
    split <;> first | rfl | exact ih _ _
  | setObj r o k ih =>
    simp only [Sem.bind, Sem.run]
    split <;> first | rfl | exact ih _
  | choose q k ih =>
    simp only [Sem.bind, Sem.run]
    split <;> exact ih _ _
  | sys c k ih => exact ih _ _
  | program k ih => exact ih _ _
  | mark m k ih => exact ih _
  | halt h => rfl
theorem pure_run {α : Type} (x : α) (w : World) : (pure x : Sem α).run P w = .ok x w := rfl
theorem bind_ok {α β : Type} {x : Sem α} {f : α → Sem β} {w w' : World} {a : α} (h : x.run P w = .ok a w') : (x >>= f).run P w = (f a).run P w' := by
  rw [bind_run, h]
theorem add_addr (B off i : Nat) : Addr.add ⟨B, off, none⟩ i = ⟨B, off + i, none⟩ := by
  unfold Addr.add
  by_cases h : i = 0
  · subst h; rfl
  · rw [if_neg h]

theorem run_storeCells : ∀ (vs : List Value) (w : World) (B off i : Nat) (arr : Array Value) (e : TypeId) (fz : Nat × Nat),
    w.heap[B]? = some (.cells arr e fz) → off + i + vs.length ≤ arr.size → (∀ j, j < arr.size → ¬ (fz.1 ≤ j ∧ j < fz.2)) → (∀ v ∈ vs, one v = true) →
    ∃ w', (storeCells ⟨B, off, none⟩ vs i).run P w = .ok () w' ∧ Turned w B (.cells (writeArr arr (off + i) vs) e fz) w'
  | [], w, B, off, i, arr, e, fz, h, _, _, _ => ⟨w, rfl, .refl h⟩
  | v :: vs, w, B, off, i, arr, e, fz, h, hl, hf, ho => by
    simp only [List.length_cons] at hl
    have hst : (store (Addr.add ⟨B, off, none⟩ i) v).run P w = .ok () (w.setCell ⟨B, off + i, none⟩ v) := by
      rw [add_addr]
      refine run_store (u := arr[off + i]'(by omega)) (ho v (by simp)) ?_ ?_
      · rw [cell?_of h, Array.getElem?_eq_getElem (by omega)]
      · rw [frozen?_of h]
        have := hf (off + i) (by omega)
        simp only [Bool.and_eq_false_iff, decide_eq_false_iff_not]
        omega
    have ht := setCell_turned (off := off + i) h v
    obtain ⟨w', hr, ht'⟩ := run_storeCells vs (w.setCell ⟨B, off + i, none⟩ v) B off (i + 1) _ e fz ht.at_ (by simp; omega) (by simpa using hf) (fun u hu => ho u (by simp [hu]))
    refine ⟨w', ?_, ?_⟩
    · show (store (Addr.add ⟨B, off, none⟩ i) v >>= fun _ => storeCells ⟨B, off, none⟩ vs (i + 1)).run P w = _
      rw [bind_ok hst]; exact hr
    · have := ht.trans ht'
      rw [show off + (i + 1) = off + i + 1 from rfl] at this
      exact this

theorem run_loadCellsFrom : ∀ (n : Nat) (w : World) (B off i : Nat) (arr : Array Value) (e : TypeId) (fz : Nat × Nat) (acc : Array Value),
    w.heap[B]? = some (.cells arr e fz) → off + i + n ≤ arr.size →
    (loadCellsFrom ⟨B, off, none⟩ i n acc).run P w = .ok (acc ++ (arr.toList.drop (off + i)).take n) w
  | 0, w, B, off, i, arr, e, fz, acc, _, _ => by simp [loadCellsFrom]
  | n + 1, w, B, off, i, arr, e, fz, acc, h, hl => by
    have hlt : off + i < arr.size := by omega
    have hld : (load (Addr.add ⟨B, off, none⟩ i)).run P w = .ok (arr[off + i]) w := by
      rw [add_addr]
      simp [load, Sem.run, cell?_of h, hlt]
    have hd : arr.toList.drop (off + i) = arr[off + i] :: arr.toList.drop (off + i + 1) := by
      rw [List.drop_eq_getElem_cons (by simpa using hlt)]
      simp
    show (load (Addr.add ⟨B, off, none⟩ i) >>= fun v => loadCellsFrom ⟨B, off, none⟩ (i + 1) n (acc.push v)).run P w = _
    rw [bind_ok hld, run_loadCellsFrom n w B off (i + 1) arr e fz _ h (by omega), hd]
    simp [show off + (i + 1) = off + i + 1 from rfl]
theorem run_loadCells {n : Nat} {w : World} {B off : Nat} {arr : Array Value} {e : TypeId} {fz : Nat × Nat} (h : w.heap[B]? = some (.cells arr e fz)) (hl : off + n ≤ arr.size) :
    (loadCells ⟨B, off, none⟩ n).run P w = .ok (((arr.toList.drop off).take n).toArray) w := by
  unfold loadCells
  rw [run_loadCellsFrom n w B off 0 arr e fz #[] h (by omega)]
  simp

/-! ## the executor's rows -/
theorem ofList_nil (i : Nat) (t : T AV) : T.ofList [] i t = t := rfl
theorem ofList_cons (v : AV) (vs : List AV) (i : Nat) (t : T AV) : T.ofList (v :: vs) i t = T.ofList vs (i + 1) (T.set v t i) := rfl
theorem ofList_get : ∀ (vs : List AV) (i : Nat) (t : T AV) (j : Nat) (u : AV), T.get (T.ofList vs i t) j = some u →
    (i ≤ j ∧ j < i + vs.length ∧ vs[j - i]? = some u) ∨ (¬ (i ≤ j ∧ j < i + vs.length) ∧ T.get t j = some u)
  | [], i, t, j, u, h => .inr ⟨by simp only [List.length_nil]; omega, h⟩
  | v :: vs, i, t, j, u, h => by
    rw [ofList_cons] at h
    rcases ofList_get vs (i + 1) _ j u h with ⟨h1, h2, h3⟩ | ⟨h1, h2⟩
    · refine .inl ⟨by omega, by simp only [List.length_cons]; omega, ?_⟩
      have : j - i = (j - (i + 1)) + 1 := by omega
      rw [this]; simpa using h3
    · rcases T.get_set h2 with ⟨rfl, rfl⟩ | ⟨h3, h4⟩
      · exact .inl ⟨Nat.le_refl _, by simp only [List.length_cons]; omega, by simp⟩
      · exact .inr ⟨by simp only [List.length_cons]; omega, h4⟩
theorem slice_zero (t : T AV) (o : Nat) : T.slice t o 0 = some [] := rfl
theorem slice_succ (t : T AV) (o n : Nat) : T.slice t o (n + 1) = match T.get t o with
    | none => none
    | some v => match T.slice t (o + 1) n with
      | none => none
      | some vs => some (v :: vs) := rfl
theorem slice_spec : ∀ (n : Nat) (t : T AV) (o : Nat) (vs : List AV), T.slice t o n = some vs → vs.length = n ∧ ∀ i v, vs[i]? = some v → T.get t (o + i) = some v
  | 0, t, o, vs, h => by
    rw [slice_zero] at h; cases h
    exact ⟨rfl, fun i v e => by simp at e⟩
  | n + 1, t, o, vs, h => by
    rw [slice_succ] at h
    cases h0 : T.get t o with
    | none => rw [h0] at h; cases h
    | some u =>
      rw [h0] at h
      simp only at h
      cases h1 : T.slice t (o + 1) n with
      | none => rw [h1] at h; cases h
      | some us =>
        rw [h1] at h
        simp only [Option.some.injEq] at h
        subst h
        obtain ⟨a, b⟩ := slice_spec n t (o + 1) us h1
        refine ⟨by simp [a], fun i v e => ?_⟩
        cases i with
        | zero => simp at e; subst e; exact h0
        | succ i =>
          have := b i v (by simpa using e)
          rw [← this]; congr 1; omega

theorem LRel.of_get : ∀ (vs : List AV) (l : List Value), vs.length ≤ l.length → (∀ (i : Nat) (v : AV), vs[i]? = some v → ∃ v' : Value, l[i]? = some v' ∧ VRel E μ v v') → LRel E μ vs (l.take vs.length)
  | [], l, _, _ => by simp; exact .nil
  | v :: vs, [], h, _ => by simp at h
  | v :: vs, l :: ls, h, hk => by
    simp only [List.length_cons, List.take_succ_cons]
    obtain ⟨v', e, r⟩ := hk 0 v (by simp)
    simp at e; subst e
    exact .cons r (LRel.of_get vs ls (by simpa using h) (fun i u e => by simpa using hk (i + 1) u (by simpa using e)))

section
variable {h : H} {w : World}
/-- what a block of cells knows, the model's block holds -/
theorem Rel.cells (r : Rel E N μ h w) {b : Nat} {x : Loc} {sz root : Nat} {cs : T AV} (hb : μ b = some x) (hk : T.get h.heap b = some (.cells sz cs root)) :
    ∃ arr e fz, w.heap[x.B]? = some (.cells arr e fz) ∧ arr.size = x.n ∧ sz ≤ x.s + x.n ∧ (∀ i, i < x.n → ¬ (fz.1 ≤ i ∧ i < fz.2)) ∧
      ∀ p v, Cell sz cs x.s p v → ∃ v', arr[p - x.s]? = some v' ∧ VRel E μ v v' := by
  obtain ⟨o, ho, arr, e, fz, rfl, h1, h2, h3, h4⟩ := r.blk b x _ hb hk
  exact ⟨arr, e, fz, ho, h1, h2, h3, h4⟩

theorem getCell_ok (r : Rel E N μ h w) {b o : Nat} {x : Loc} {v : AV} (hb : μ b = some x) (hs : x.s ≤ o) (hg : getCell h b o = some v) :
    ∃ v', w.cell? ⟨x.B, o - x.s, none⟩ = some v' ∧ VRel E μ v v' := by
  unfold getCell at hg
  split at hg
  · rename_i sz cs root hk
    split at hg
    · rename_i hlt
      obtain ⟨arr, e, fz, ho, h1, h2, h3, h4⟩ := r.cells hb hk
      obtain ⟨v', e1, e2⟩ := h4 o v ⟨hs, by simpa using hlt, hg⟩
      exact ⟨v', by rw [cell?_of ho]; exact e1, e2⟩
    · cases hg
  · cases hg
theorem getCells_ok (r : Rel E N μ h w) {b o n : Nat} {x : Loc} {vs : List AV} (hb : μ b = some x) (hs : x.s ≤ o) (hg : getCells h b o n = some vs) :
    ∃ vs', (∀ w', w'.heap = w.heap → (loadCells ⟨x.B, o - x.s, none⟩ n).run P w' = .ok vs'.toArray w') ∧ LRel E μ vs vs' ∧ vs.length = n ∧ o - x.s + n ≤ x.n := by
  unfold getCells at hg
  split at hg
  · rename_i sz cs root hk
    split at hg
    · rename_i hle
      have hle : o + n ≤ sz := by simpa using hle
      obtain ⟨arr, e, fz, ho, h1, h2, h3, h4⟩ := r.cells hb hk
      obtain ⟨hl, hv⟩ := slice_spec n cs o vs hg
      refine ⟨(arr.toList.drop (o - x.s)).take n, fun w' hw' => run_loadCells (by rw [hw']; exact ho) (by omega), ?_, hl, by omega⟩
      have := LRel.of_get (E := E) (μ := μ) vs (arr.toList.drop (o - x.s)) (by simp; omega) ?_
      · rwa [hl] at this
      · intro i v e
        have hi : i < n := by
          rcases Nat.lt_or_ge i vs.length with h | h
          · omega
          · rw [List.getElem?_eq_none h] at e; cases e
        obtain ⟨v', e1, e2⟩ := h4 (o + i) v ⟨by omega, by omega, hv i v e⟩
        refine ⟨v', ?_, e2⟩
        rw [List.getElem?_drop, ← e1]
        simp only [Array.getElem?_toList]
        congr 1; omega
    · cases hg
  · cases hg
end

theorem blt_f {a b : Nat} (h : Nat.blt a b = false) : b ≤ a := by
  rcases Nat.lt_or_ge a b with h' | h'
  · have : Nat.blt a b = true := by simpa using h'
    rw [this] at h; cases h
  · exact h'
theorem ble_f {a b : Nat} (h : Nat.ble a b = false) : b < a := by
  rcases Nat.lt_or_ge b a with h' | h'
  · exact h'
  · have : Nat.ble a b = true := by simpa using h'
    rw [this] at h; cases h
theorem blt_t {a b : Nat} (h : Nat.blt a b = true) : a < b := by simpa using h
theorem ble_t {a b : Nat} (h : Nat.ble a b = true) : a ≤ b := by simpa using h
theorem beq_t {a b : Nat} (h : Nat.beq a b = true) : a = b := by simpa using h
theorem beq_f {a b : Nat} (h : Nat.beq a b = false) : a ≠ b := by intro e; subst e; simp at h

/-! ## striking siblings -/
theorem strike_nil (b o : Nat) (t : T Blk) : strike b o [] t = t := rfl
theorem strike_cons (b o c : Nat) (cs : List Nat) (t : T Blk) : strike b o (c :: cs) t = match Nat.beq c b with
    | true => strike b o cs t
    | false => match T.get t c with
      | some (.cells sz _ y) => match Nat.blt o sz with
        | true => strike b o cs (T.set (.cells 0 .nil y) t c)
        | false => strike b o cs t
      | _ => strike b o cs t := by
  conv => lhs; unfold strike
  rfl
/-- what stands after striking stood before, or is empty; what is left of the list holds nothing at o or behind -/
theorem strike_spec (b o : Nat) : ∀ (l : List Nat) (t : T Blk),
    (∀ c, T.get t c = none → T.get (strike b o l t) c = none) ∧ T.get (strike b o l t) b = T.get t b ∧
    (∀ c k, T.get (strike b o l t) c = some k → (T.get t c = some k ∨ ∃ y sz cs, k = .cells 0 .nil y ∧ T.get t c = some (.cells sz cs y)) ∧
      (c ∈ l → c ≠ b → ∀ sz cs y, k = .cells sz cs y → sz ≤ o))
  | [], t => ⟨fun _ h => h, rfl, fun _ _ h => ⟨.inl h, fun hm => by cases hm⟩⟩
  | d :: l, t => by
    rw [strike_cons]
    have ih := strike_spec b o l
    cases hdb : Nat.beq d b with
    | true =>
      have hdb : d = b := by simpa using hdb
      obtain ⟨h1, h2, h3⟩ := ih t
      refine ⟨h1, h2, fun c k hk => ⟨(h3 c k hk).1, fun hm hne => ?_⟩⟩
      rcases List.mem_cons.1 hm with rfl | hm
      · exact absurd hdb hne
      · exact (h3 c k hk).2 hm hne
    | false =>
      have hdb : d ≠ b := by intro e; subst e; simp at hdb
      simp only
      split
      · rename_i sz cs y hd
        split
        · -- struck
          obtain ⟨h1, h2, h3⟩ := ih (T.set (.cells 0 .nil y) t d)
          refine ⟨fun c hc => h1 c ?_, ?_, fun c k hk => ?_⟩
          · by_cases e : c = d
            · subst e; rw [hd] at hc; cases hc
            · rw [T.get_set_ne _ _ e]; exact hc
          · rw [h2, T.get_set_ne _ _ (fun e => hdb e.symm)]
          · obtain ⟨k1, k2⟩ := h3 c k hk
            by_cases e : c = d
            · subst e
              have hk' : k = .cells 0 .nil y := by
                rcases k1 with k1 | ⟨y', sz', cs', e1, e2⟩
                · exact T.get_set_self k1
                · have := T.get_set_self e2
                  cases this; exact e1
              refine ⟨.inr ⟨y, sz, cs, hk', hd⟩, fun _ _ sz' cs' y' e' => ?_⟩
              rw [hk'] at e'; cases e'; omega
            · refine ⟨?_, fun hm hne => ?_⟩
              · rcases k1 with k1 | ⟨y', sz', cs', e1, e2⟩
                · rw [T.get_set_ne _ _ e] at k1; exact .inl k1
                · rw [T.get_set_ne _ _ e] at e2; exact .inr ⟨y', sz', cs', e1, e2⟩
              · rcases List.mem_cons.1 hm with rfl | hm
                · exact absurd rfl e
                · exact k2 hm hne
        · rename_i hlt
          obtain ⟨h1, h2, h3⟩ := ih t
          refine ⟨h1, h2, fun c k hk => ⟨(h3 c k hk).1, fun hm hne sz' cs' y' e' => ?_⟩⟩
          rcases List.mem_cons.1 hm with rfl | hm
          · rcases (h3 _ k hk).1 with k1 | ⟨y2, sz2, cs2, e1, e2⟩
            · rw [hd] at k1; cases k1; cases e'
              exact blt_f hlt
            · rw [e1] at e'; cases e'; omega
          · exact (h3 c k hk).2 hm hne sz' cs' y' e'
      · rename_i hd
        obtain ⟨h1, h2, h3⟩ := ih t
        refine ⟨h1, h2, fun c k hk => ⟨(h3 c k hk).1, fun hm hne sz' cs' y' e' => ?_⟩⟩
        rcases List.mem_cons.1 hm with rfl | hm
        · rcases (h3 _ k hk).1 with k1 | ⟨y2, sz2, cs2, e1, e2⟩
          · subst e'; exact absurd k1 (hd _ _ _)
          · exact absurd e2 (hd _ _ _)
        · exact (h3 c k hk).2 hm hne sz' cs' y' e'

/-- The relation after a strike: nothing has turned in the model. -/
theorem Rel.strike {h : H} {w : World} (r : Rel E N μ h w) (b o : Nat) (l : List Nat) : Rel E N μ { heap := Ax.strike b o l h.heap, next := h.next, sibs := h.sibs } w where
  own := r.own
  blk := fun c x k hc hk => by
    rcases ((strike_spec b o l h.heap).2.2 c k hk).1 with h1 | ⟨y, sz, cs, rfl, h1⟩
    · exact r.blk c x k hc h1
    · obtain ⟨ob, ho, arr, e, fz, rfl, h2, h3, h4, h5⟩ := r.blk c x _ hc h1
      refine ⟨_, ho, arr, e, fz, rfl, h2, by omega, h4, fun p v hv => ?_⟩
      have := hv.2.1; omega
  shares := fun c c' x x' sz sz' cs cs' root root' hne hc hc' hB hk hk' => by
    have key : ∀ d sz cs root, T.get (Ax.strike b o l h.heap) d = some (.cells sz cs root) → ∃ sz1 cs1, T.get h.heap d = some (.cells sz1 cs1 root) := by
      intro d sz cs root hd
      rcases ((strike_spec b o l h.heap).2.2 d _ hd).1 with h1 | ⟨y, s1, c1, e1, h1⟩
      · exact ⟨_, _, h1⟩
      · cases e1; exact ⟨_, _, h1⟩
    obtain ⟨s1, c1, h1⟩ := key _ _ _ _ hk
    obtain ⟨s2, c2, h2⟩ := key _ _ _ _ hk'
    exact r.shares c c' x x' s1 s2 c1 c2 root root' hne hc hc' hB h1 h2
  maps := fun c c' x x' es k es' k' hc hc' hB hk hk' => by
    rcases ((strike_spec b o l h.heap).2.2 c _ hk).1 with h1 | ⟨y, s1, c1, e1, h1⟩
    · rcases ((strike_spec b o l h.heap).2.2 c' _ hk').1 with h2 | ⟨y, s1, c1, e1, h2⟩
      · exact r.maps c c' x x' es k es' k' hc hc' hB h1 h2
      · cases e1
    · cases e1
  fresh := fun c hc => (strike_spec b o l h.heap).1 c (r.fresh c hc)

theorem Ext.strike (μ : Mu) (h : H) (w : World) (b o : Nat) (l : List Nat) : Ext μ h w μ { heap := Ax.strike b o l h.heap, next := h.next, sibs := h.sibs } w where
  le := fun _ _ e => e
  free := fun b _ _ => Nat.lt_or_ge b h.next
  dom := fun _ _ e => .inl e
  new := fun _ _ e e' => by rw [e] at e'; cases e'
  next := Nat.le_refl _
  absent := fun c hc _ => (strike_spec b o l h.heap).1 c hc
  kept := fun _ _ _ => rfl
  size := Nat.le_refl _
  os := rfl
  tape := rfl
  output := rfl

theorem alone_next (b o root : Nat) (h : H) : (alone b o root h).next = h.next := by
  unfold alone; split <;> rfl
theorem Rel.alone {h : H} {w : World} (r : Rel E N μ h w) (b o root : Nat) : Rel E N μ (Ax.alone b o root h) w := by
  unfold Ax.alone; split
  · exact r
  · exact r.strike b o _
theorem Ext.alone (μ : Mu) (h : H) (w : World) (b o root : Nat) : Ext μ h w μ (Ax.alone b o root h) w := by
  unfold Ax.alone; split
  · exact .refl ..
  · exact .strike ..
theorem alone_self (b o root : Nat) (h : H) : T.get (alone b o root h).heap b = T.get h.heap b := by
  unfold alone; split
  · rfl
  · exact (strike_spec b o _ h.heap).2.1
/-- Behind 'alone' no other block of the executor reaches the cell at o or one behind it. -/
theorem alone_free {h : H} {w : World} (r : Rel E N μ h w) {b o root sz : Nat} {cs : T AV} {x : Loc} (hb : μ b = some x) (hk : T.get h.heap b = some (.cells sz cs root))
    {c : Nat} {y : Loc} {sz' : Nat} {cs' : T AV} {root' : Nat} (hne : c ≠ b) (hc : μ c = some y) (hB : y.B = x.B)
    (hk' : T.get (alone b o root h).heap c = some (.cells sz' cs' root')) : sz' ≤ o ∧ y.s = x.s := by
  unfold alone at hk'
  split at hk'
  · rename_i hn
    obtain ⟨e1, _, l, hl, _⟩ := r.shares c b y x sz' sz cs' cs root' root hne hc hb hB hk' hk
    rw [e1, hn] at hl; cases hl
  · rename_i l hl
    rcases ((strike_spec b o l h.heap).2.2 c _ hk').1 with h1 | ⟨y', s1, c1, e1, h1⟩
    · obtain ⟨e1, e2, l', hl', m1, m2⟩ := r.shares c b y x sz' sz cs' cs root' root hne hc hb hB h1 hk
      subst e1
      rw [hl] at hl'; cases hl'
      exact ⟨((strike_spec b o l h.heap).2.2 c _ hk').2 m1 hne _ _ _ rfl, e2⟩
    · cases e1
      obtain ⟨_, e2, _⟩ := r.shares c b y x _ sz _ cs _ root hne hc hb hB h1 hk
      exact ⟨Nat.zero_le _, e2⟩
theorem VRel.oneOf {v : AV} {v' : Value} (h : VRel E μ v v') (ho : v.one = true) : one v' = true := by
  cases h <;> first | rfl | exact E.one _ | (simp [AV.one] at ho)
theorem allOne_cons (v : AV) (vs : List AV) : allOne (v :: vs) = match v.one with | true => allOne vs | false => false := rfl
theorem LRel.ones : ∀ {vs : List AV} {vs' : List Value}, LRel E μ vs vs' → allOne vs = true → ∀ v ∈ vs', one v = true
  | _, _, .nil, _, v, hm => by cases hm
  | _, _, .cons (v := u) h hs, ho, v, hm => by
    rw [allOne_cons] at ho
    cases h1 : u.one with
    | false => rw [h1] at ho; cases ho
    | true =>
      rw [h1] at ho
      rcases List.mem_cons.1 hm with rfl | hm
      · exact h.oneOf h1
      · exact LRel.ones hs ho v hm

/-- A store of a row of cells. -/
theorem putCells_ok {h h' : H} {w : World} (r : Rel E N μ h w) {b o : Nat} {x : Loc} {vs : List AV} {vs' : List Value} (hb : μ b = some x) (hs : x.s ≤ o)
    (hv : LRel E μ vs vs') (ho : allOne vs = true) (hp : putCells h b o vs = some h') :
    ∃ w', (storeCells ⟨x.B, o - x.s, none⟩ vs').run P w = .ok () w' ∧ Rel E N μ h' w' ∧ Ext μ h w μ h' w' ∧ h'.next = h.next := by
  cases vs with
  | nil =>
    cases hv
    simp only [putCells] at hp
    cases hp
    exact ⟨w, rfl, r, .refl .., rfl⟩
  | cons u us =>
    simp only [putCells] at hp
    split at hp
    · rename_i sz cs0 root hk
      split at hp
      · rename_i hle
        have hle : o + (u :: us).length ≤ sz := ble_t hle
        have rA := r.alone b o root
        have hkA := alone_self b o root h
        rw [hk] at hkA
        unfold putIn at hp
        rw [hkA] at hp
        simp only [Option.some.injEq] at hp
        subst hp
        obtain ⟨arr, e, fz, hw, h1, h2, h3, h4⟩ := rA.cells hb hkA
        have hlen : vs'.length = (u :: us).length := hv.length
        obtain ⟨w', hrun, ht⟩ := run_storeCells (P := P) vs' w x.B (o - x.s) 0 arr e fz hw (by omega) (by rw [h1]; exact h3) (hv.ones ho)
        rw [Nat.add_zero] at ht
        have hget : ∀ c k, T.get (setObj b (.cells sz (T.ofList (u :: us) o cs0) root) (alone b o root h)).heap c = some k →
            (c = b ∧ k = .cells sz (T.ofList (u :: us) o cs0) root) ∨ (c ≠ b ∧ T.get (alone b o root h).heap c = some k) := fun c k hk => T.get_set hk
        refine ⟨w', hrun, ⟨?_, ?_, ?_, ?_, ?_⟩, ?_, alone_next ..⟩
        · intro c y hc
          have := r.own c y hc
          exact ⟨this.1, by rw [ht.size]; exact this.2⟩
        · intro c y k hc hk'
          rcases hget c k hk' with ⟨rfl, rfl⟩ | ⟨hne, hk'⟩
          · rw [hb] at hc; cases hc
            refine ⟨_, ht.at_, _, e, fz, rfl, by rw [writeArr_size]; exact h1, h2, h3, fun p v hcell => ?_⟩
            rcases ofList_get _ _ _ _ _ hcell.2.2 with ⟨a1, a2, a3⟩ | ⟨a1, a2⟩
            · obtain ⟨v', e1, e2⟩ := hv.get? a3
              refine ⟨v', ?_, e2⟩
              rw [writeArr_get _ _ _ _ (by omega), if_pos (by omega), ← e1]
              congr 1; omega
            · obtain ⟨v', e1, e2⟩ := h4 p v ⟨hcell.1, hcell.2.1, a2⟩
              refine ⟨v', ?_, e2⟩
              have := hcell.1
              rw [writeArr_get _ _ _ _ (by omega), if_neg (by omega)]
              exact e1
          · by_cases hB : y.B = x.B
            · obtain ⟨ob, hob, hbr⟩ := rA.blk c y k hc hk'
              rw [hB, hw] at hob; cases hob
              cases k with
              | map es cl => obtain ⟨ents, e1, _⟩ := hbr; cases e1
              | cells sz' cs' root' =>
                obtain ⟨arr', e', fz', e1, e2, e3, e4, e5⟩ := hbr
                cases e1
                refine ⟨_, by rw [hB]; exact ht.at_, _, e, fz, rfl, by rw [writeArr_size]; exact e2, e3, e4, fun p v hcell => ?_⟩
                obtain ⟨v', f1, f2⟩ := e5 p v hcell
                refine ⟨v', ?_, f2⟩
                rw [writeArr_get _ _ _ _ (by omega)]
                split
                · rename_i hin
                  exfalso
                  have := alone_free r hb hk hne hc hB hk'
                  have := hcell.1; have := hcell.2.1
                  omega
                · exact f1
            · obtain ⟨ob, hob, hbr⟩ := rA.blk c y k hc hk'
              exact ⟨ob, by rw [ht.other _ hB]; exact hob, hbr⟩
        · intro c c' y y' sz1 sz2 cs1 cs2 root1 root2 hne hc hc' hB hk1 hk2
          have key : ∀ d sz1 cs1 root1, T.get (setObj b (.cells sz (T.ofList (u :: us) o cs0) root) (alone b o root h)).heap d = some (.cells sz1 cs1 root1) →
              ∃ cs2, T.get (alone b o root h).heap d = some (.cells sz1 cs2 root1) := by
            intro d sz1 cs1 root1 hd
            rcases hget d _ hd with ⟨rfl, e⟩ | ⟨_, e⟩
            · cases e; exact ⟨_, hkA⟩
            · exact ⟨_, e⟩
          obtain ⟨q1, hq1⟩ := key _ _ _ _ hk1
          obtain ⟨q2, hq2⟩ := key _ _ _ _ hk2
          exact rA.shares c c' y y' sz1 sz2 q1 q2 root1 root2 hne hc hc' hB hq1 hq2
        · intro c c' y y' es k es' k' hc hc' hB hk1 hk2
          rcases hget c _ hk1 with ⟨rfl, e⟩ | ⟨_, e1⟩
          · cases e
          · rcases hget c' _ hk2 with ⟨rfl, e⟩ | ⟨_, e2⟩
            · cases e
            · exact rA.maps c c' y y' es k es' k' hc hc' hB e1 e2
        · intro c hc
          have hn : T.get (alone b o root h).heap c = none := rA.fresh c hc
          cases hx : T.get (setObj b (.cells sz (T.ofList (u :: us) o cs0) root) (alone b o root h)).heap c with
          | none => rfl
          | some k =>
            rcases hget c _ hx with ⟨rfl, _⟩ | ⟨_, e⟩
            · rw [hkA] at hn; cases hn
            · rw [hn] at e; cases e
        · have eA := Ext.alone μ h w b o root
          refine eA.trans ⟨fun _ _ e => e, fun c _ _ => Nat.lt_or_ge c _, fun _ _ e => .inl e, fun _ _ e e' => (by rw [e] at e'; cases e'), Nat.le_refl _, ?_, ?_, Nat.le_of_eq ht.size.symm, ht.os, ht.tape, ht.output⟩
          · intro c hn _
            cases hx : T.get (setObj b (.cells sz (T.ofList (u :: us) o cs0) root) (alone b o root h)).heap c with
            | none => rfl
            | some k =>
              rcases hget c _ hx with ⟨rfl, _⟩ | ⟨_, e⟩
              · rw [hkA] at hn; cases hn
              · rw [hn] at e; cases e
          · intro B hB hno
            refine ht.other B ?_
            intro e; subst e
            have := hno b x hb rfl
            rw [hkA] at this; cases this
      · cases hp
    · cases hp

/-! ## new blocks -/
def Mu.put (μ : Mu) (b : Nat) (x : Loc) : Mu := fun c => if c = b then some x else μ c
theorem Mu.put_self (μ : Mu) (b : Nat) (x : Loc) : Mu.put μ b x b = some x := if_pos rfl
theorem Mu.put_ne (μ : Mu) {b c : Nat} (x : Loc) (h : c ≠ b) : Mu.put μ b x c = μ c := if_neg h
theorem Mu.le_put {μ : Mu} {b : Nat} {x : Loc} (h : μ b = none) : Mu.le μ (Mu.put μ b x) := fun c y hc => by
  by_cases e : c = b
  · subst e; rw [h] at hc; cases hc
  · rw [Mu.put_ne _ _ e]; exact hc
theorem Free.next {μ : Mu} {n m : Nat} (h : Free μ n m) (hm : n < m) : μ n = none := by
  cases e : μ n with
  | none => rfl
  | some x => have := h n x e; omega

/-- the model's world has one block more -/
structure Pushed (w : World) (o : Obj) (w' : World) : Prop where
  heap : w'.heap = w.heap.push o
  os : w'.os = w.os
  tape : w'.tape = w.tape
  output : w'.output = w.output

theorem newObj_ok {h : H} {w w' : World} (r : Rel E N μ h w) {k : Blk} {o : Obj} {n : Nat} (hf : Free μ h.next (h.next + 1)) (hN : N ≤ w.heap.size)
    (hk : BRel E μ 0 n k o) (hp : Pushed w o w') :
    Rel E N (Mu.put μ h.next ⟨w.heap.size, 0, n⟩) (newObj k h) w' ∧ Ext μ h w (Mu.put μ h.next ⟨w.heap.size, 0, n⟩) (newObj k h) w' := by
  have hnone : μ h.next = none := hf.next (Nat.lt_succ_self _)
  have hle := Mu.le_put (x := ⟨w.heap.size, 0, n⟩) hnone
  have hold : ∀ B, B < w.heap.size → w'.heap[B]? = w.heap[B]? := fun B hB => by
    rw [hp.heap, Array.getElem?_push, if_neg (by omega)]
  have hnew : w'.heap[w.heap.size]? = some o := by rw [hp.heap]; simp
  have hsz : w'.heap.size = w.heap.size + 1 := by rw [hp.heap]; simp
  have hget : ∀ c k', T.get (newObj k h).heap c = some k' → (c = h.next ∧ k' = k) ∨ (c ≠ h.next ∧ T.get h.heap c = some k') := fun c k' e => T.get_set e
  have hmu : ∀ c y, Mu.put μ h.next ⟨w.heap.size, 0, n⟩ c = some y → (c = h.next ∧ y = ⟨w.heap.size, 0, n⟩) ∨ (c ≠ h.next ∧ μ c = some y) := by
    intro c y e
    by_cases hc : c = h.next
    · subst hc; rw [Mu.put_self] at e; cases e; exact .inl ⟨rfl, rfl⟩
    · rw [Mu.put_ne _ _ hc] at e; exact .inr ⟨hc, e⟩
  refine ⟨⟨?_, ?_, ?_, ?_, ?_⟩, hle, hf, ?_, ?_, Nat.le_succ _, ?_, fun B hB _ => hold B hB, by omega, hp.os, hp.tape, hp.output⟩
  · intro c y e
    rcases hmu c y e with ⟨_, rfl⟩ | ⟨_, e⟩
    · exact ⟨hN, by simp only; omega⟩
    · have := r.own c y e; omega
  · intro c y k' e ek
    rcases hmu c y e with ⟨rfl, rfl⟩ | ⟨hne, e⟩
    · rcases hget _ _ ek with ⟨_, rfl⟩ | ⟨h1, _⟩
      · exact ⟨o, hnew, hk.mono hle⟩
      · exact absurd rfl h1
    · rcases hget _ _ ek with ⟨h1, _⟩ | ⟨_, ek⟩
      · exact absurd h1 hne
      · obtain ⟨ob, h1, h2⟩ := r.blk c y k' e ek
        exact ⟨ob, by rw [hold _ (r.own c y e).2]; exact h1, h2.mono hle⟩
  · intro c c' y y' sz sz' cs cs' root root' hne e e' hB ek ek'
    rcases hmu c y e with ⟨rfl, rfl⟩ | ⟨h1, e⟩
    · rcases hmu c' y' e' with ⟨rfl, rfl⟩ | ⟨h2, e'⟩
      · exact absurd rfl hne
      · have := (r.own c' y' e').2; simp only at hB; omega
    · rcases hmu c' y' e' with ⟨rfl, rfl⟩ | ⟨h2, e'⟩
      · have := (r.own c y e).2; simp only at hB; omega
      · rcases hget _ _ ek with ⟨h3, _⟩ | ⟨_, ek⟩
        · exact absurd h3 h1
        · rcases hget _ _ ek' with ⟨h3, _⟩ | ⟨_, ek'⟩
          · exact absurd h3 h2
          · exact r.shares c c' y y' sz sz' cs cs' root root' hne e e' hB ek ek'
  · intro c c' y y' es cl es' cl' e e' hB ek ek'
    rcases hmu c y e with ⟨rfl, rfl⟩ | ⟨h1, e⟩
    · rcases hmu c' y' e' with ⟨rfl, rfl⟩ | ⟨h2, e'⟩
      · rfl
      · have := (r.own c' y' e').2; simp only at hB; omega
    · rcases hmu c' y' e' with ⟨rfl, rfl⟩ | ⟨h2, e'⟩
      · have := (r.own c y e).2; simp only at hB; omega
      · rcases hget _ _ ek with ⟨h3, _⟩ | ⟨_, ek⟩
        · exact absurd h3 h1
        · rcases hget _ _ ek' with ⟨h3, _⟩ | ⟨_, ek'⟩
          · exact absurd h3 h2
          · exact r.maps c c' y y' es cl es' cl' e e' hB ek ek'
  · intro c hc
    have hc : h.next + 1 ≤ c := hc
    show T.get (T.set k h.heap h.next) c = none
    rw [T.get_set_ne _ _ (by omega)]
    exact r.fresh c (by omega)
  · intro c y e
    rcases hmu c y e with ⟨rfl, rfl⟩ | ⟨_, e⟩
    · exact .inr ⟨Nat.le_refl _, Nat.lt_succ_self _⟩
    · exact .inl e
  · intro c y e e0
    rcases hmu c y e with ⟨rfl, rfl⟩ | ⟨_, e⟩
    · exact .inl (Nat.le_refl _)
    · rw [e0] at e; cases e
  · intro c hc hlt
    have hlt : c < h.next ∨ h.next + 1 ≤ c := hlt
    show T.get (T.set k h.heap h.next) c = none
    rw [T.get_set_ne _ _ (by omega)]; exact hc

theorem memB_t {t : Nat} : ∀ {l : List Nat}, memB t l = true → t ∈ l
  | [], h => by cases h
  | u :: l, h => by
    simp only [memB] at h
    split at h
    · rename_i e; have := beq_t e; subst this; exact List.mem_cons_self ..
    · exact List.mem_cons_of_mem _ (memB_t h)

section grow
variable {h : H} {w w' : World} {b e root : Nat} {cs : T AV} {vs : List AV}
theorem grow_get {c : Nat} {k : Blk} (hc : T.get (growLoose b e root cs vs h).heap c = some k) :
    (c = h.next ∧ k = .cells (e + vs.length) (T.ofList vs e cs) root) ∨ (c ≠ h.next ∧ T.get (strike h.next e (sibsOf b (T.get h.sibs root)) h.heap) c = some k) :=
  T.get_set (x := .cells (e + vs.length) (T.ofList vs e cs) root) (t := strike h.next e (sibsOf b (T.get h.sibs root)) h.heap) (i := h.next) (by simpa only [growLoose, Nat.add_eq] using hc)
/-- the common part: a new block of the executor over a block y of the model, new or shared with b -/
theorem grow_ok (r : Rel E N μ h w) {x y : Loc} (hb : μ b = some x) (hk : T.get h.heap b = some (.cells e cs root)) (hf : Free μ h.next (h.next + 1))
    (hm : b ∈ sibsOf b (T.get h.sibs root)) (hroot : root < 4294967296)
    (hy : y = x ∨ (y.B = w.heap.size)) (hN : N ≤ w.heap.size) (hsz : w.heap.size ≤ w'.heap.size) (hlt : y.B < w'.heap.size)
    (hold : ∀ B, B < w.heap.size → B ≠ y.B → w'.heap[B]? = w.heap[B]?)
    (hnew : ∃ o, w'.heap[y.B]? = some o ∧ BRel E μ y.s y.n (.cells (e + vs.length) (T.ofList vs e cs) root) o)
    (hshare : y = x → ∃ arr arr' ty fz, w.heap[x.B]? = some (.cells arr ty fz) ∧ w'.heap[x.B]? = some (.cells arr' ty fz) ∧ arr'.size = arr.size ∧
      ∀ i, i < e - x.s → arr'[i]? = arr[i]?)
    (hw : w'.os = w.os ∧ w'.tape = w.tape ∧ w'.output = w.output) :
    Rel E N (Mu.put μ h.next y) (growLoose b e root cs vs h) w' ∧ Ext μ h w (Mu.put μ h.next y) (growLoose b e root cs vs h) w' := by
  have hnone : μ h.next = none := hf.next (Nat.lt_succ_self _)
  have hle := Mu.le_put (x := y) hnone
  have rS := r.strike h.next e (sibsOf b (T.get h.sibs root))
  have hmu : ∀ c z, Mu.put μ h.next y c = some z → (c = h.next ∧ z = y) ∨ (c ≠ h.next ∧ μ c = some z) := by
    intro c z e
    by_cases hc : c = h.next
    · subst hc; rw [Mu.put_self] at e; cases e; exact .inl ⟨rfl, rfl⟩
    · rw [Mu.put_ne _ _ hc] at e; exact .inr ⟨hc, e⟩
  have hnoshare : ∀ c z, μ c = some z → z.B = y.B → y = x := by
    intro c z hc hz
    rcases hy with h | h
    · exact h
    · have := (r.own c z hc).2; omega
  -- who shares the block with b is on the list
  have hlist : ∀ c z sz' cs' root', c ≠ b → μ c = some z → z.B = x.B → T.get h.heap c = some (.cells sz' cs' root') →
      root' = root ∧ z.s = x.s ∧ c ∈ sibsOf b (T.get h.sibs root) := by
    intro c z sz' cs' root' hne hc hz hkc
    obtain ⟨e1, e2, l, hl, m1, m2⟩ := r.shares c b z x sz' e cs' cs root' root hne hc hb hz hkc hk
    subst e1
    refine ⟨rfl, e2, ?_⟩
    rw [hl]; exact m1
  have hsmall : ∀ c z sz' cs' root', μ c = some z → z.B = x.B → T.get (strike h.next e (sibsOf b (T.get h.sibs root)) h.heap) c = some (.cells sz' cs' root') →
      sz' ≤ e ∧ z.s = x.s ∧ root' = root ∧ c ∈ sibsOf b (T.get h.sibs root) := by
    intro c z sz' cs' root' hc hz hkc
    have hcn : c ≠ h.next := by intro e; subst e; rw [hnone] at hc; cases hc
    obtain ⟨k1, k2⟩ := (strike_spec h.next e (sibsOf b (T.get h.sibs root)) h.heap).2.2 c _ hkc
    by_cases hcb : c = b
    · subst hcb
      rw [hb] at hc; cases hc
      refine ⟨k2 hm hcn _ _ _ rfl, rfl, ?_, hm⟩
      rcases k1 with k1 | ⟨q, s1, c1, e1, e2⟩
      · rw [hk] at k1; cases k1; rfl
      · rw [hk] at e2; cases e2; cases e1; rfl
    · rcases k1 with k1 | ⟨q, s1, c1, e1, e2⟩
      · obtain ⟨f1, f2, f3⟩ := hlist c z sz' cs' root' hcb hc hz k1
        exact ⟨k2 f3 hcn _ _ _ rfl, f2, f1, f3⟩
      · cases e1
        obtain ⟨f1, f2, f3⟩ := hlist c z _ _ _ hcb hc hz e2
        exact ⟨Nat.zero_le _, f2, f1, f3⟩
  refine ⟨⟨?_, ?_, ?_, ?_, ?_⟩, hle, hf, ?_, ?_, Nat.le_succ _, ?_, ?_, hsz, hw.1, hw.2.1, hw.2.2⟩
  · intro c z e
    rcases hmu c z e with ⟨_, rfl⟩ | ⟨_, e⟩
    · rcases hy with rfl | hy
      · exact ⟨(r.own b _ hb).1, hlt⟩
      · exact ⟨by omega, hlt⟩
    · have := r.own c z e; omega
  · intro c z k e' ek
    rcases grow_get ek with ⟨rfl, rfl⟩ | ⟨hne, ek⟩
    · rcases hmu _ z e' with ⟨_, rfl⟩ | ⟨h1, _⟩
      · obtain ⟨o, h1, h2⟩ := hnew
        exact ⟨o, h1, h2.mono hle⟩
      · exact absurd rfl h1
    · rcases hmu _ z e' with ⟨h1, _⟩ | ⟨_, e'⟩
      · exact absurd h1 hne
      · obtain ⟨o, h1, h2⟩ := rS.blk c z k e' ek
        by_cases hB : z.B = y.B
        · have hyx := hnoshare c z e' hB
          subst hyx
          obtain ⟨arr, arr', ty, fz, g1, g2, g3, g4⟩ := hshare rfl
          rw [hB, g1] at h1; cases h1
          cases k with
          | map es cl => obtain ⟨ents, e1, _⟩ := h2; cases e1
          | cells sz' cs' root' =>
            obtain ⟨f1, f2, _, _⟩ := hsmall c z sz' cs' root' e' hB ek
            obtain ⟨a1, t1, z1, e1, e2, e3, e4, e5⟩ := h2
            cases e1
            refine ⟨_, by rw [hB]; exact g2, arr', ty, fz, rfl, by omega, e3, e4, fun p v hc => ?_⟩
            obtain ⟨v', q1, q2⟩ := e5 p v hc
            refine ⟨v', ?_, q2.mono hle⟩
            have := hc.1; have := hc.2.1
            rw [g4 _ (by omega)]; exact q1
        · exact ⟨o, by rw [hold _ (r.own c z e').2 hB]; exact h1, h2.mono hle⟩
  · intro c c' z z' sz1 sz2 cs1 cs2 root1 root2 hne e1 e2 hB k1 k2
    have hs : T.get (growLoose b e root cs vs h).sibs root = some (h.next :: sibsOf b (T.get h.sibs root)) := T.get_set_some _ _ hroot
    rcases grow_get k1 with ⟨rfl, q1⟩ | ⟨n1, k1⟩
    · rcases grow_get k2 with ⟨rfl, q2⟩ | ⟨n2, k2⟩
      · exact absurd rfl hne
      · cases q1
        rcases hmu _ z e1 with ⟨_, rfl⟩ | ⟨h1, _⟩
        · rcases hmu _ z' e2 with ⟨h1, _⟩ | ⟨_, e2⟩
          · exact absurd h1 n2
          · have hyx := hnoshare c' z' e2 hB.symm
            subst hyx
            obtain ⟨f1, f2, f3, f4⟩ := hsmall c' z' sz2 cs2 root2 e2 hB.symm k2
            exact ⟨f3.symm, f2.symm, _, hs, List.mem_cons_self .., List.mem_cons_of_mem _ f4⟩
        · exact absurd rfl h1
    · rcases hmu _ z e1 with ⟨h1, _⟩ | ⟨_, m1⟩
      · exact absurd h1 n1
      · rcases grow_get k2 with ⟨rfl, q2⟩ | ⟨n2, k2⟩
        · cases q2
          rcases hmu _ z' e2 with ⟨_, rfl⟩ | ⟨h1, _⟩
          · have hyx := hnoshare c z m1 hB
            subst hyx
            obtain ⟨f1, f2, f3, f4⟩ := hsmall c z sz1 cs1 root1 m1 hB k1
            subst f3
            exact ⟨rfl, f2, _, hs, List.mem_cons_of_mem _ f4, List.mem_cons_self ..⟩
          · exact absurd rfl h1
        · rcases hmu _ z' e2 with ⟨h1, _⟩ | ⟨_, e2⟩
          · exact absurd h1 n2
          · obtain ⟨g1, g2, l, g3, g4, g5⟩ := rS.shares c c' z z' sz1 sz2 cs1 cs2 root1 root2 hne m1 e2 hB k1 k2
            refine ⟨g1, g2, ?_⟩
            by_cases hr : root1 = root
            · subst hr
              refine ⟨_, hs, List.mem_cons_of_mem _ ?_, List.mem_cons_of_mem _ ?_⟩
              · rw [show T.get h.sibs root1 = some l from g3]; exact g4
              · rw [show T.get h.sibs root1 = some l from g3]; exact g5
            · refine ⟨l, ?_, g4, g5⟩
              show T.get (T.set _ h.sibs root) root1 = some l
              rw [T.get_set_ne _ _ hr]; exact g3
  · intro c c' z z' es cl es' cl' e1 e2 hB k1 k2
    rcases grow_get k1 with ⟨rfl, q1⟩ | ⟨n1, k1⟩
    · cases q1
    · rcases grow_get k2 with ⟨rfl, q2⟩ | ⟨n2, k2⟩
      · cases q2
      · rcases hmu _ z e1 with ⟨h1, _⟩ | ⟨_, e1⟩
        · exact absurd h1 n1
        · rcases hmu _ z' e2 with ⟨h1, _⟩ | ⟨_, e2⟩
          · exact absurd h1 n2
          · exact rS.maps c c' z z' es cl es' cl' e1 e2 hB k1 k2
  · intro c hc
    have hc : h.next + 1 ≤ c := hc
    cases hx : T.get (growLoose b e root cs vs h).heap c with
    | none => rfl
    | some k =>
      rcases grow_get hx with ⟨rfl, _⟩ | ⟨_, k1⟩
      · omega
      · have := rS.fresh c (by show h.next ≤ c; omega)
        rw [this] at k1; cases k1
  · intro c z e1
    rcases hmu c z e1 with ⟨rfl, rfl⟩ | ⟨_, e1⟩
    · exact .inr ⟨Nat.le_refl _, Nat.lt_succ_self _⟩
    · exact .inl e1
  · intro c z e1 e0
    rcases hmu c z e1 with ⟨rfl, rfl⟩ | ⟨_, e1⟩
    · rcases hy with rfl | hy
      · exact .inr ⟨b, _, hb, rfl, by rw [hk]; simp⟩
      · exact .inl (by omega)
    · rw [e0] at e1; cases e1
  · intro c hc hlt
    have hlt : c < h.next ∨ h.next + 1 ≤ c := hlt
    cases hx : T.get (growLoose b e root cs vs h).heap c with
    | none => rfl
    | some k =>
      rcases grow_get hx with ⟨rfl, _⟩ | ⟨_, k1⟩
      · omega
      · rw [(strike_spec h.next e (sibsOf b (T.get h.sibs root)) h.heap).1 c hc] at k1; cases k1
  · intro B hB hno
    refine hold B hB ?_
    intro e1
    rcases hy with rfl | hy
    · have := hno b _ hb e1.symm
      rw [hk] at this; cases this
    · omega
end grow
end Go.Ax
