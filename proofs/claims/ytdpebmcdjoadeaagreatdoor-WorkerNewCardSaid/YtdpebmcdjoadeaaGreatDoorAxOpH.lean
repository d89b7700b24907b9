/- Helper text: the operations that make a block of memory. -/
import Derived.Test.YtdpebmcdjoadeaaGreatDoorAxOpG
namespace Go.Ax
variable {E : Env} {N : Nat} {μ μ' : Mu} {P : Program}

def NewOk (P : Program) (o : Oper) (f : Tmps → Option NB) : Prop :=
  ∀ (E : Env) (μ : Mu) (ρ : Tmps) (a : Act) (w : World) (nb : NB), (∀ x ∈ o.op.operands.toList, Related E μ ρ a x) → f ρ = some nb →
    ∃ obj v' w' n, (execOp a.eval o).run P w = .ok (.value v') w' ∧ Pushed w obj w' ∧ (∀ id, BRel E μ 0 n (nb.blk id) obj) ∧
      ∀ μ' id, Mu.le μ μ' → μ' id = some ⟨w.heap.size, 0, n⟩ → VRel E μ' (nb.val id) v'
/-- a row of cells, with or without room behind it -/
theorem row_brel {cs : List AV} {vs : List Value} (h : LRel E μ cs vs) {arr : Array Value} {e : TypeId} {fz : Nat × Nat} (hle : vs.length ≤ arr.size)
    (hget : ∀ i, i < vs.length → arr[i]? = vs[i]?) (hfz : ∀ i, i < arr.size → ¬ (fz.1 ≤ i ∧ i < fz.2)) (id : Nat) : BRel E μ 0 arr.size (rowBlk cs id) (.cells arr e fz) := by
  have hlen := h.length
  refine ⟨arr, e, fz, rfl, rfl, by omega, hfz, fun p v hc => ?_⟩
  rcases ofList_get _ _ _ _ _ hc.2.2 with ⟨_, h2, h3⟩ | ⟨_, h2⟩
  · obtain ⟨v', g1, g2⟩ := h.get? h3
    exact ⟨v', by rw [hget _ (by omega)]; exact g1, g2⟩
  · rw [T.get_nil] at h2; cases h2
theorem push_run (e : TypeId) (cells : Array Value) (w : World) : (newRow e cells).run P w = .ok ⟨w.heap.size, 0, none⟩ { w with heap := w.heap.push (.cells cells e) } := by
  simp [newRow]
theorem pushed (w : World) (o : Obj) : Pushed w o { w with heap := w.heap.push o } := ⟨rfl, rfl, rfl, rfl⟩
theorem var_new {o : Oper} {a : Act} {w : World} {cs : List AV} {v : Value} {e : TypeId} (h : LRel E μ cs v.cells.toList) (hrun : (execOp a.eval o).run P w = .ok (.value (.pointer (some ⟨w.heap.size, 0, none⟩))) { w with heap := w.heap.push (.cells v.cells e) }) :
    ∃ obj v' w' n, (execOp a.eval o).run P w = .ok (.value v') w' ∧ Pushed w obj w' ∧ (∀ id, BRel E μ 0 n ((rowNB cs).blk id) obj) ∧
      ∀ μ' id, Mu.le μ μ' → μ' id = some ⟨w.heap.size, 0, n⟩ → VRel E μ' ((rowNB cs).val id) v' := by
  refine ⟨_, _, _, v.cells.size, hrun, pushed _ _, fun id => row_brel h (by simp) (fun i _ => by simp) (fun i _ => by simp) id, fun μ' id _ he => ?_⟩
  exact VRel.ptr (x := ⟨w.heap.size, 0, v.cells.size⟩) he (Nat.le_refl _)
theorem alloc_ok (o : Oper) (t : TypeId) {z : AV} (ho : o.op = .alloc t) (hz : cZero P t = some z) : NewOk P o (allocf z.cells) := by
  intro E μ ρ a w nb _ h
  unfold allocf at h
  cases h
  obtain ⟨zv, hzr, hzv⟩ := cZero_ok hz
  refine var_new (v := zv) (e := t) (hzv E μ).cells ?_
  simp only [execOp, ho]
  refine run_value ?_
  unfold Instr.alloc
  rw [bind_ok (hzr w)]
  simp only
  show (newVar t zv >>= fun r => pure (Value.pointer (some r)) : Sem Value).run P w = _
  unfold newVar
  rw [bind_ok (push_run t zv.cells w)]
  rfl
theorem box_ok (o : Oper) (t : TypeId) (x : Operand) (ho : o.op = .box t x) : NewOk P o (boxf (cOpd x)) := by
  intro E μ ρ a w nb hr h
  have hx := hr x (by rw [ho]; simp [Op.operands])
  unfold boxf at h
  split at h
  · rename_i v hv
    cases h
    refine var_new (v := a.eval x) (e := t) (hx _ hv).cells ?_
    simp only [execOp, ho]
    refine run_value ?_
    unfold Instr.box newVar
    rw [bind_ok (push_run t (a.eval x).cells w)]
    rfl
  · cases h
theorem slc_new {o : Oper} {a : Act} {w w' : World} {cs : List AV} {vs : List Value} {arr : Array Value} {e : TypeId} {fz : Nat × Nat} {len cap cap' z : Nat} {loose : Bool} (h : LRel E μ cs vs) (hle : vs.length ≤ arr.size)
    (hget : ∀ i, i < vs.length → arr[i]? = vs[i]?) (hfz : ∀ i, i < arr.size → ¬ (fz.1 ≤ i ∧ i < fz.2)) (hl : len ≤ cap) (hc : cap ≤ cap') (ht : loose = false → cap' = cap) (hn : cap' * z ≤ arr.size)
    (hp : Pushed w (.cells arr e fz) w') (hrun : (execOp a.eval o).run P w = .ok (.value (.slice (some ⟨w.heap.size, 0, none⟩) len cap')) w') :
    ∃ obj v' w' n, (execOp a.eval o).run P w = .ok (.value v') w' ∧ Pushed w obj w' ∧ (∀ id, BRel E μ 0 n ((slcNB cs len cap z loose).blk id) obj) ∧
      ∀ μ' id, Mu.le μ μ' → μ' id = some ⟨w.heap.size, 0, n⟩ → VRel E μ' ((slcNB cs len cap z loose).val id) v' := by
  refine ⟨_, _, _, arr.size, hrun, hp, fun id => row_brel h hle hget hfz id, fun μ' id _ he => ?_⟩
  exact VRel.slice (x := ⟨w.heap.size, 0, arr.size⟩) he (Nat.le_refl _) hl hc ht (by simpa using hn)
theorem repl_rel {z : List AV} {zv : List Value} (h : LRel E μ z zv) : ∀ (n : Nat), ∃ vs, LRel E μ (repl n z) vs ∧ vs.length = n * zv.length ∧ ∀ i, i < n * zv.length → vs[i]? = zv[i % zv.length]?
  | 0 => ⟨[], .nil, by simp, fun i hi => by simp at hi⟩
  | n + 1 => by
    obtain ⟨vs, h1, h2, h3⟩ := repl_rel h n
    refine ⟨zv ++ vs, h.append h1, by rw [List.length_append, h2, Nat.succ_mul, Nat.add_comm], fun i hi => ?_⟩
    rw [List.getElem?_append]
    split
    · rename_i hlt
      rw [Nat.mod_eq_of_lt hlt]
    · rename_i hge
      rw [Nat.succ_mul] at hi
      rw [h3 _ (by omega)]
      congr 1
      exact (Nat.mod_eq_sub_mod (by omega)).symm

/-- the cells that the model lays: the zero value again and again -/
theorem zeros_get (zc : Array Value) (n i : Nat) (hi : i < n * zc.size) (hz : 0 < zc.size) : ((Array.range (n * zc.size)).map (fun j => zc[j % zc.size]!))[i]? = zc[i % zc.size]? := by
  rw [Array.getElem?_map, Array.getElem?_eq_getElem (by simpa using hi)]
  have hlt : i % zc.size < zc.size := Nat.mod_lt _ hz
  simp [Array.getElem?_eq_getElem hlt, getElem!_def]
theorem zeros_rel {z : List AV} {zc : Array Value} (h : LRel E μ z zc.toList) (n : Nat) : LRel E μ (repl n z) ((Array.range (n * zc.size)).map (fun j => zc[j % zc.size]!)).toList := by
  obtain ⟨vs, h1, h2, h3⟩ := repl_rel h n
  have : vs = ((Array.range (n * zc.size)).map (fun j => zc[j % zc.size]!)).toList := by
    apply List.ext_getElem?
    intro i
    conv => rhs; rw [Array.getElem?_toList]
    simp only [Array.length_toList] at h2 h3
    rcases Nat.lt_or_ge i (n * zc.size) with hi | hi
    · have hz : 0 < zc.size := by
        rcases Nat.eq_zero_or_pos zc.size with h | h
        · rw [h] at hi; simp at hi
        · exact h
      rw [zeros_get zc n i hi hz, h3 i hi, Array.getElem?_toList]
    · rw [List.getElem?_eq_none (by omega), Array.getElem?_eq_none (by simpa using hi)]
  rw [← this]; exact h1
theorem buildSlice_ok (o : Oper) (t e : TypeId) (len : Nat) (parts : Array (Nat × Operand)) {s : Nat} {z : AV} (ho : o.op = .buildSlice t len parts) (ht : P.underlying t = some (.slice e)) (hs : cSize P e = some s) (hz : cZero P e = some z)
    (hzs : z.cells.length = s) (hmax : len * s ≤ 16777216) : NewOk P o (buildSlicef (repl len z.cells) len s (cElems s parts.toList)) := by
  intro E μ ρ a w nb hr h
  unfold buildSlicef at h
  split at h
  · rename_i cs hcs
    cases h
    obtain ⟨zv, hzr, hzv⟩ := cZero_ok hz
    have hzc := (hzv E μ).cells
    have hsz : zv.cells.size = s := by
      have := hzc.length
      simp only [Array.length_toList] at this
      omega
    -- the cells ahead of the parts
    have hc0 := zeros_rel hzc len
    rw [hsz] at hc0
    have hrel : ∀ p ∈ parts.toList, Related E μ ρ a p.2 := fun p hp => hr p.2 (by rw [ho]; simp only [Op.operands]; simp only [List.mem_map]; exact ⟨p, hp, rfl⟩)
    obtain ⟨res', g1, g2, g3⟩ := fills_ok (cElems_ok s _) hrel hc0 hcs
    have hlen : res'.size = len * s := by
      have h1 := g2.length
      have h2 := hc0.length
      simp at h1 h2
      omega
    refine slc_new (fz := (0, 0)) (e := e) (arr := res') g2 (by simp) (fun i _ => by simp) (fun i _ => by simp) (Nat.le_refl _) (Nat.le_refl _) (fun _ => rfl) (by omega) (pushed _ _) ?_
    simp only [execOp, ho]
    refine run_value ?_
    unfold Instr.buildSlice
    rw [bind_ok (run_underlying ht w)]
    simp only
    rw [bind_ok (run_sizeOf hs w)]
    rw [if_neg (by omega)]
    have g1' : ∀ (zero : Array Value), (len * s ≠ 0 → zero = zv.cells) →
        Instr.fill (fun i => some (i * s, s)) ((Array.range (len * s)).map (fun j => zero[j % zero.size]!)) (parts.map (fun p => (p.1, a.eval p.2))).toList = some res' := by
      intro zero hzz
      rw [Array.toList_map, ← g1]
      congr 1
      by_cases h0 : len * s = 0
      · rw [h0]; simp
      · rw [hzz h0, hsz]
    have hend : (newRow e res' >>= fun r => pure (Value.slice (some r) len len) : Sem Value).run P w = .ok (.slice (some ⟨w.heap.size, 0, none⟩) len len) { w with heap := w.heap.push (.cells res' e) } := by
      rw [bind_ok (push_run e res' w)]; rfl
    split
    · rename_i h0
      simp only [pure_bind, g1' #[] (fun hne => absurd h0 hne)]
      exact hend
    · rw [bind_ok (hzr w)]
      simp only [pure_bind, g1' zv.cells (fun _ => rfl)]
      exact hend
  · cases h
theorem mkMap_ok (o : Oper) (t : TypeId) (ho : o.op = .makeMap t none) : NewOk P o mkMapf := by
  intro E μ ρ a w nb _ h
  unfold mkMapf at h
  cases h
  refine ⟨.map #[] 0, .map (some w.heap.size), { w with heap := w.heap.push (.map #[] 0) }, 0, ?_, pushed _ _, fun id => ⟨#[], rfl, .nil⟩, fun μ' id _ he => ?_⟩
  · simp only [execOp, ho]
    refine run_value ?_
    simp [Instr.makeMap, Go.newObj, Sem.run]
  · exact VRel.map (x := ⟨w.heap.size, 0, 0⟩) he

theorem mkSlice_ok (o : Oper) (t e : TypeId) (l c : Operand) {s bytes : Nat} {z : AV} (ho : o.op = .makeSlice t l c) (ht : P.underlying t = some (.slice e)) (hs : cSize P e = some s) (hz : cZero P e = some z) (hb : cBytes P e = some bytes)
    (hzs : z.cells.length = s) : NewOk P o (mkSlicef z.cells bytes (cOpd l) (cOpd c)) := by
  intro E μ ρ a w nb hr h
  have hl := hr l (by rw [ho]; simp [Op.operands])
  have hc := hr c (by rw [ho]; simp [Op.operands])
  unfold mkSlicef at h
  split at h
  · rename_i ln hln
    split at h
    · rename_i cn hcn
      split at h
      · rename_i hle
        split at h
        · rename_i hbd
          cases h
          have hle := ble_t hle
          have hbd := blt_t hbd
          obtain ⟨k1, hk1⟩ := natOf_some hl hln
          obtain ⟨k2, hk2⟩ := natOf_some hc hcn
          obtain ⟨zv, hzr, hzv⟩ := cZero_ok hz
          have hzc := (hzv E μ).cells
          have hsz : zv.cells.size = s := by
            have := hzc.length
            simp only [Array.length_toList] at this
            omega
          have hc0 := zeros_rel hzc cn
          rw [hsz] at hc0
          rw [hzs]
          simp only [Nat.succ_eq_add_one, Nat.mul_eq] at hbd
          have hcn32 : cn < 4294967296 := by
            have : cn ≤ (bytes + 1) * cn := Nat.le_mul_of_pos_left cn (by omega)
            omega
          have hbytes : bytes * cn < 4294967296 := by
            rw [Nat.add_mul] at hbd; omega
          refine slc_new (fz := (0, 0)) (e := e) (arr := (Array.range (cn * s)).map (fun j => zv.cells[j % s]!)) hc0 (by simp) (fun i _ => by rw [Array.getElem?_toList]) (fun i _ => by simp) hle (Nat.le_refl _) (fun _ => rfl) (by simp) (pushed _ _) ?_
          simp only [execOp, ho, hk1, hk2]
          refine run_value ?_
          unfold Instr.makeSlice
          rw [bind_ok (run_underlying ht w)]
          simp only [asInt, asIntOf, pure_bind]
          unfold cBytes at hb
          cases hi : P.info? e with
          | none => rw [hi] at hb; cases hb
          | some ie =>
            rw [hi] at hb
            simp at hb
            rw [bind_ok (run_typeInfo hi w)]
            rw [wrap_ofNat .i64 ln (by simp only [topOf]; omega), wrap_ofNat .i64 cn (by simp only [topOf]; omega)]
            have h1 : (decide ((ie.bytes : Int) * Int.ofNat cn > 2 ^ 48)) = false := by
              rw [decide_eq_false_iff_not, hb, Int.ofNat_eq_natCast, ← Int.natCast_mul]
              omega
            have h2 : (decide (Int.ofNat cn < 0)) = false := by rw [decide_eq_false_iff_not, Int.ofNat_eq_natCast]; omega
            have h3 : (decide (Int.ofNat ln < 0)) = false := by rw [decide_eq_false_iff_not, Int.ofNat_eq_natCast]; omega
            have h4 : (decide (Int.ofNat ln > Int.ofNat cn)) = false := by rw [decide_eq_false_iff_not, Int.ofNat_eq_natCast, Int.ofNat_eq_natCast]; omega
            rw [h1, h2, h3, h4]
            rw [if_neg (by simp)]
            have e1 : (Int.ofNat cn).toNat = cn := rfl
            have e2 : (Int.ofNat ln).toNat = ln := rfl
            rw [e1, e2]
            have hask : (askRoom (cn * ie.bytes)).run P w = .ok () w := by
              unfold askRoom
              rw [if_neg]
              · rfl
              · rw [hb, Nat.mul_comm]; unfold roomBytes; omega
            rw [bind_ok hask, bind_ok (run_sizeOf hs w)]
            have hend : ∀ (zero : Array Value), (cn * s ≠ 0 → zero = zv.cells) → (newRow e ((Array.range (cn * s)).map (fun j => zero[j % zero.size]!)) >>= fun r => pure (Value.slice (some r) ln cn) : Sem Value).run P w =
                .ok (.slice (some ⟨w.heap.size, 0, none⟩) ln cn) { w with heap := w.heap.push (.cells ((Array.range (cn * s)).map (fun j => zv.cells[j % s]!)) e) } := by
              intro zero hzz
              have : ((Array.range (cn * s)).map (fun j => zero[j % zero.size]!)) = (Array.range (cn * s)).map (fun j => zv.cells[j % s]!) := by
                by_cases h0 : cn * s = 0
                · rw [h0]; simp
                · rw [hzz h0, hsz]
              rw [this, bind_ok (push_run e _ w)]; rfl
            split
            · rename_i h0
              exact hend #[] (fun hne => absurd h0 hne)
            · rw [bind_ok (hzr w)]
              exact hend zv.cells (fun _ => rfl)
        · cases h
      · cases h
    · cases h
  · cases h

theorem modify_push {α : Type} (xs : Array α) (x : α) (f : α → α) : (xs.push x).modify xs.size f = xs.push (f x) := by
  apply Array.ext_getElem?
  intro i
  rw [Array.getElem?_modify, Array.getElem?_push, Array.getElem?_push]
  by_cases h : xs.size = i
  · rw [if_pos h, if_pos h.symm, if_pos h.symm]; rfl
  · rw [if_neg h, if_neg (fun e => h e.symm), if_neg (fun e => h e.symm)]
theorem strBytes_rel (l : List UInt8) : LRel E μ (strBytes l) (l.map fun b => Value.int .u8 b.toNat) := by
  induction l with
  | nil => exact .nil
  | cons b l ih => exact .cons (.int _ _) ih
theorem strToBytes_ok (o : Oper) (s d e : TypeId) (x : Operand) (ho : o.op = .convert s d x) (hs : P.underlying s = some .string) (hd : P.underlying d = some (.slice e)) (he : P.underlying e = some (.int .u8)) :
    NewOk P o (strToBytesf (cOpd x)) := by
  intro E μ ρ a w nb hr h
  have hx := hr x (by rw [ho]; simp [Op.operands])
  unfold strToBytesf at h
  split at h
  · rename_i l el
    cases h
    have hv := hx _ el
    generalize hxv : a.eval x = xv at hv
    cases hv with | str st => ?_
    have hlen : st.data.toList.length = st.size := by simp
    rw [hlen]
    -- the capacity drawn
    obtain ⟨cap, hcap, hch⟩ : ∃ cap, st.size ≤ cap ∧ (choose (.appendCap st.size 0 e)).run P w = .ok cap { w with drawn := w.drawn + 1 } :=
      ⟨_, Nat.le_add_right _ _, rfl⟩
    refine slc_new (fz := (st.size + (cap - st.size), st.size + (cap - st.size) + 1)) (e := e) (arr := (st.data.map fun b => Value.int .u8 b.toNat) ++ Array.replicate (cap - st.size) (.int .u8 0))
      (cap' := cap) (w' := { w with drawn := w.drawn + 1, heap := w.heap.push (.cells ((st.data.map fun b => Value.int .u8 b.toNat) ++ Array.replicate (cap - st.size) (.int .u8 0)) e (st.size + (cap - st.size), st.size + (cap - st.size) + 1)) })
      (strBytes_rel _) (by simp) (fun i hi => ?_) (fun i hi => ?_) (Nat.le_refl _) hcap (fun e => by cases e) (by simp; omega) ⟨rfl, rfl, rfl, rfl⟩ ?_
    · simp only [List.length_map, hlen] at hi
      rw [Array.getElem?_append_left (by simpa using hi)]
      simp
    · have : i < st.size + (cap - st.size) := by simpa using hi
      simp only; omega
    · simp only [execOp, ho, hxv]
      refine run_value ?_
      unfold convert
      rw [bind_ok (run_underlying hs w), bind_ok (run_underlying hd w)]
      simp only
      rw [bind_ok (run_underlying he w)]
      show (Conv.stringToBytes e st).run P w = _
      unfold Conv.stringToBytes
      rw [bind_ok hch]
      simp only
      rw [bind_ok (push_run e _ _)]
      unfold markStringish
      simp [shape, freeze, Sem.run, World.shape?, World.freeze]
      rw [modify_push]
      simp
  · cases h
end Go.Ax
