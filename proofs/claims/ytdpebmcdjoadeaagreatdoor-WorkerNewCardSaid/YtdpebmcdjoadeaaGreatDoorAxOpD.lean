/- Helper text: addresses, parts, struct literals, tests of types, lengths. -/
import Derived.Test.YtdpebmcdjoadeaaGreatDoorAxOpC
import Derived.Laws.Tables
namespace Go.Ax
variable {E : Env} {N : Nat} {μ μ' : Mu} {P : Program}

theorem fieldAddr_ok (o : Oper) (t : TypeId) (x : Operand) (f : Nat) {fs : Array Field} {fd : Field} {n : Nat} (ho : o.op = .fieldAddr t x f) (ht : P.underlying t = some (.struct fs))
    (hf : fs[f]? = some fd) (hn : cSize P fd.type = some n) (h0 : n ≠ 0) : PureOk P o (fieldAddrf fd.offset (cOpd x)) := by
  intro E μ ρ a v hr h
  have hx := hr x (by rw [ho]; simp [Op.operands])
  unfold fieldAddrf at h
  split at h
  · rename_i b off e
    cases h
    have hv := hx _ e
    generalize hxv : a.eval x = xv at hv
    cases hv with | ptr hb hs => ?_
    rename_i loc
    have e1 : off - loc.s + fd.offset = Nat.add off fd.offset - loc.s := by simp only [Nat.add_eq]; omega
    refine ⟨.pointer (some ⟨loc.B, Nat.add off fd.offset - loc.s, none⟩), .ptr hb (by simp only [Nat.add_eq]; omega), fun w => ?_⟩
    simp only [execOp, ho, hxv]
    refine run_value ?_
    unfold Instr.fieldAt
    rw [bind_ok (run_underlying ht w)]
    simp only [hf]
    show (fieldPlace _ fd >>= fun y => pure (Value.pointer (some y)) : Sem Value).run P w = _
    have : (fieldPlace ⟨loc.B, off - loc.s, none⟩ fd).run P w = .ok ⟨loc.B, off - loc.s + fd.offset, none⟩ w := by
      unfold fieldPlace
      rw [bind_ok (run_sizeOf hn w), if_neg h0, add_addr]; rfl
    rw [bind_ok this, e1]; rfl
  · cases h

theorem LRel.part {cs : List AV} {cs' : List Value} (h : LRel E μ cs cs') (off n : Nat) : VRel E μ (.agg ((cs.drop off).take n)) (.agg (cs'.toArray.extract off (off + n))) := by
  have := VRel.agg ((h.drop off).take n)
  have e : cs'.toArray.extract off (off + n) = ((cs'.drop off).take n).toArray := by
    apply Array.toList_inj.1
    rw [Array.toList_extract, List.extract_eq_take_drop]
    simp
  rw [e]; exact this
theorem field1_ok (o : Oper) (t : TypeId) (x : Operand) (f : Nat) {fs : Array Field} {fd : Field} (ho : o.op = .field t x f) (ht : P.underlying t = some (.struct fs))
    (hf : fs[f]? = some fd) (ha : cIsAgg P fd.type = some false) : PureOk P o (field1f fd.offset (cOpd x)) := by
  intro E μ ρ a v hr h
  have hx := hr x (by rw [ho]; simp [Op.operands])
  unfold field1f at h
  split at h
  · rename_i cs e
    have hv := hx _ e
    generalize hxv : a.eval x = xv at hv
    cases hv with | agg hl => ?_
    obtain ⟨v', h1, h2⟩ := hl.nth h
    refine ⟨v', h2, fun w => ?_⟩
    simp only [execOp, ho, hxv]
    refine run_value ?_
    unfold Instr.field
    rw [bind_ok (run_underlying ht w)]
    simp only [hf, asAgg]
    show (part fd.type _ fd.offset).run P w = _
    unfold part
    rw [bind_ok (run_isAgg ha w)]
    simp [h1]
  · cases h
theorem fieldN_ok (o : Oper) (t : TypeId) (x : Operand) (f : Nat) {fs : Array Field} {fd : Field} {n : Nat} (ho : o.op = .field t x f) (ht : P.underlying t = some (.struct fs))
    (hf : fs[f]? = some fd) (ha : cIsAgg P fd.type = some true) (hn : cSize P fd.type = some n) : PureOk P o (fieldNf fd.offset n (cOpd x)) := by
  intro E μ ρ a v hr h
  have hx := hr x (by rw [ho]; simp [Op.operands])
  unfold fieldNf at h
  split at h
  · rename_i cs e
    cases h
    have hv := hx _ e
    generalize hxv : a.eval x = xv at hv
    cases hv with | agg hl => ?_
    refine ⟨_, hl.part fd.offset n, fun w => ?_⟩
    simp only [execOp, ho, hxv]
    refine run_value ?_
    unfold Instr.field
    rw [bind_ok (run_underlying ht w)]
    simp only [hf, asAgg]
    show (part fd.type _ fd.offset).run P w = _
    unfold part
    rw [bind_ok (run_isAgg ha w)]
    simp only [if_true]
    rw [bind_ok (run_sizeOf hn w)]
    rfl
  · cases h

theorem at_ok {b o len z i : Nat} {x : Loc} {v : AV} (hb : μ b = some x) (hs : x.s ≤ o) (h : at_ b o len z i = some v) :
    i < len ∧ VRel E μ v (.pointer (some ⟨x.B, o - x.s + i * z, none⟩)) := by
  unfold at_ at h
  split at h
  · rename_i hlt
    cases h
    have e1 : o - x.s + i * z = Nat.add o (Nat.mul i z) - x.s := by simp only [Nat.add_eq, Nat.mul_eq]; omega
    exact ⟨blt_t hlt, by rw [e1]; exact .ptr hb (by simp only [Nat.add_eq]; omega)⟩
  · cases h
theorem indexAddr_ok (o : Oper) (t e : TypeId) (x i : Operand) {n : Nat} (ho : o.op = .indexAddr t x i) (ht : P.underlying t = some (.slice e)) (hn : cSize P e = some n) :
    PureOk P o (indexAddrf n (cOpd x) (cOpd i)) := by
  intro E μ ρ a v hr h
  have hx := hr x (by rw [ho]; simp [Op.operands])
  have hi := hr i (by rw [ho]; simp [Op.operands])
  unfold indexAddrf at h
  split at h
  · rename_i b off len cap z loose ee
    have hv := hx _ ee
    generalize hxv : a.eval x = xv at hv
    cases hv with | slice hb hs hlen hc htight hnn => ?_
    rename_i cap' loc
    split at h
    · rename_i hz
      have hz := beq_t hz
      subst hz
      split at h
      · rename_i j hj
        obtain ⟨k, hk⟩ := natOf_some hi hj
        obtain ⟨hlt, hvr⟩ := at_ok (E := E) hb hs h
        refine ⟨_, hvr, fun w => ?_⟩
        simp only [execOp, ho, hxv, hk]
        refine run_value ?_
        unfold Instr.indexAt
        simp only [asIntOf]
        simp [run_underlying ht, run_sizeOf hn]
        rw [if_pos hlt, add_addr]
      · cases h
    · cases h
  · cases h
theorem indexArr_ok (o : Oper) (t e : TypeId) (x i : Operand) {n len : Nat} (ho : o.op = .indexAddr t x i) (ht : P.underlying t = some (.array len e)) (hn : cSize P e = some n) :
    PureOk P o (indexArrf n len (cOpd x) (cOpd i)) := by
  intro E μ ρ a v hr h
  have hx := hr x (by rw [ho]; simp [Op.operands])
  have hi := hr i (by rw [ho]; simp [Op.operands])
  unfold indexArrf at h
  split at h
  · rename_i b off ee
    have hv := hx _ ee
    generalize hxv : a.eval x = xv at hv
    cases hv with | ptr hb hs => ?_
    rename_i loc
    split at h
    · rename_i j hj
      obtain ⟨k, hk⟩ := natOf_some hi hj
      obtain ⟨hlt, hvr⟩ := at_ok (E := E) hb hs h
      refine ⟨_, hvr, fun w => ?_⟩
      simp only [execOp, ho, hxv, hk]
      refine run_value ?_
      unfold Instr.indexAt
      simp only [asIntOf]
      simp [run_underlying ht, run_sizeOf hn, Instr.sureAddr]
      rw [if_pos hlt, add_addr]
    · cases h
  · cases h
theorem nthB_some : ∀ {l : List UInt8} {i : Nat} {v : AV}, nthB l i = some v → ∃ b, l[i]? = some b ∧ v = .int .u8 (.ofNat b.toNat)
  | b :: _, 0, v, h => by simp only [nthB] at h; cases h; exact ⟨b, rfl, rfl⟩
  | _ :: l, i + 1, v, h => by
    simp only [nthB] at h
    obtain ⟨b, h1, h2⟩ := nthB_some h
    exact ⟨b, by simpa using h1, h2⟩
theorem indexStr_ok (o : Oper) (t : TypeId) (x i : Operand) (ho : o.op = .index t x i) (ht : P.underlying t = some .string) : PureOk P o (indexStrf (cOpd x) (cOpd i)) := by
  intro E μ ρ a v hr h
  have hx := hr x (by rw [ho]; simp [Op.operands])
  have hi := hr i (by rw [ho]; simp [Op.operands])
  unfold indexStrf at h
  split at h
  · rename_i l ee
    have hv := hx _ ee
    generalize hxv : a.eval x = xv at hv
    cases hv with | str s => ?_
    split at h
    · rename_i j hj
      obtain ⟨k, hk⟩ := natOf_some hi hj
      obtain ⟨b, h1, rfl⟩ := nthB_some h
      refine ⟨_, .int _ _, fun w => ?_⟩
      simp only [execOp, ho, hxv, hk]
      refine run_value ?_
      unfold Instr.index
      simp only [asIntOf]
      have h2 : s[j]? = some b := by
        rw [← h1]
        simp only [Array.getElem?_toList]
        rcases Nat.lt_or_ge j s.size with hlt | hge
        · rw [getElem?_pos s j hlt, getElem?_pos s.data j (by simpa using hlt)]; rfl
        · rw [getElem?_neg s j (by omega), getElem?_neg s.data j (by simpa using hge)]
      simp [run_underlying ht, h2]
    · cases h
  · cases h

/-! struct literals -/
theorem foldl_write (vs : List Value) : ∀ (k off : Nat) (c : Array Value),
    (vs.zipIdx k).foldl (fun (cs : Array Value) (p : Value × Nat) => cs.setIfInBounds (off + p.2) p.1) c = writeArr c (off + k) vs := by
  induction vs with
  | nil => intro k off c; rfl
  | cons v vs ih =>
    intro k off c
    simp only [List.zipIdx_cons, List.foldl_cons, writeArr]
    rw [ih (k + 1) off]
    rfl
theorem fillL_length : ∀ (n : Nat) (vs cs : List AV), n + vs.length ≤ cs.length → (fillL n vs cs).length = cs.length
  | 0, vs, cs, h => by simp [fillL]; omega
  | n + 1, vs, [], h => by simp at h
  | n + 1, vs, c :: cs, h => by
    simp only [fillL, List.length_cons]
    rw [fillL_length n vs cs (by simp at h; omega)]
theorem writeList (vs : List Value) : ∀ (off : Nat) (c : Array Value), off + vs.length ≤ c.size →
    (writeArr c off vs).toList = c.toList.take off ++ vs ++ c.toList.drop (off + vs.length) := by
  intro off c h
  apply List.ext_getElem?
  intro i
  rw [Array.getElem?_toList, writeArr_get _ _ _ _ h]
  rw [List.append_assoc, List.getElem?_append, List.getElem?_append]
  have e1 : (c.toList.take off).length = off := by simp; omega
  rw [e1]
  split
  · rename_i hin
    rw [if_neg (by omega), if_pos (by omega)]
  · rename_i hout
    by_cases h1 : i < off
    · rw [if_pos h1, List.getElem?_take, if_pos h1, Array.getElem?_toList]
    · rw [if_neg h1, if_neg (by omega), List.getElem?_drop, Array.getElem?_toList]
      congr 1; omega
theorem LRel.fill : ∀ (n : Nat) {vs cs : List AV} {vs' cs' : List Value}, LRel E μ vs vs' → LRel E μ cs cs' →
    LRel E μ (fillL n vs cs) (if n ≤ cs'.length then cs'.take n ++ vs' ++ cs'.drop (n + vs'.length) else cs')
  | 0, vs, cs, vs', cs', hv, hc => by
    simp only [fillL, Nat.zero_le, if_true, List.take_zero, List.nil_append, Nat.zero_add]
    rw [hv.length]
    exact hv.append (hc.drop _)
  | n + 1, vs, _, vs', _, hv, .nil => by
    simp only [fillL, List.length_nil]
    rw [if_neg (by omega)]
    exact .nil
  | n + 1, vs, _, vs', _, hv, .cons (vs' := cs') h hs => by
    have := LRel.fill n hv hs
    simp only [fillL, List.length_cons]
    by_cases hle : n ≤ cs'.length
    · rw [if_pos (by omega)]
      rw [if_pos hle] at this
      rw [show n + 1 + vs'.length = (n + vs'.length) + 1 by omega]
      simpa using LRel.cons h this
    · rw [if_neg (by omega)]
      rw [if_neg hle] at this
      exact .cons h this

/-- the parts of a literal and their places -/
inductive PRel (place : Nat → Option (Nat × Nat)) : List (Nat × Operand) → List (Nat × Nat × Opd) → Prop
  | nil : PRel place [] []
  | cons {i off n : Nat} {x : Operand} {ps : List (Nat × Operand)} {l : List (Nat × Nat × Opd)} (h : place i = some (off, n)) (hs : PRel place ps l) :
      PRel place ((i, x) :: ps) ((off, n, cOpd x) :: l)
theorem cParts_ok {places : List (Nat × Nat)} : ∀ {ps : List (Nat × Operand)} {l : List (Nat × Nat × Opd)}, cParts places ps = some l → PRel (fun i => places[i]?) ps l
  | [], l, h => by simp only [cParts] at h; cases h; exact .nil
  | (i, x) :: ps, l, h => by
    simp only [cParts] at h
    split at h
    · rename_i off n hp
      split at h
      · rename_i l' hl
        cases h
        exact .cons hp (cParts_ok hl)
      · cases h
    · cases h
theorem cElems_ok (s : Nat) : ∀ (ps : List (Nat × Operand)), PRel (fun i => some (i * s, s)) ps (cElems s ps)
  | [] => .nil
  | _ :: ps => .cons rfl (cElems_ok s ps)
theorem fills_ok {place : Nat → Option (Nat × Nat)} {ρ : Tmps} {a : Act} : ∀ {ps : List (Nat × Operand)} {l : List (Nat × Nat × Opd)} {cs res : List AV} {cs' : Array Value},
    PRel place ps l → (∀ p ∈ ps, Related E μ ρ a p.2) → LRel E μ cs cs'.toList → fills ρ l cs = some res →
    ∃ res', Instr.fill place cs' (ps.map fun p => (p.1, a.eval p.2)) = some res' ∧ LRel E μ res res'.toList ∧ res.length = cs.length
  | _, _, cs, res, cs', .nil, _, hc, h => by
    simp only [fills] at h; cases h
    exact ⟨cs', rfl, hc, rfl⟩
  | _, _, cs, res, cs', .cons (i := i) (off := off) (n := n) (x := x) (ps := ps) (l := l) hp hs, hr, hc, h => by
    simp only [fills] at h
    split at h
    · cases h
    · rename_i v hv
      split at h
      · rename_i h1
        split at h
        · rename_i h2
          have h1 := beq_t h1
          have h2 := ble_t h2
          have hvr := (hr (i, x) (by simp) v hv).cells
          have hlen := hvr.length
          have hclen := hc.length
          have hfill := LRel.fill off hvr hc
          simp only [Array.length_toList, Nat.add_eq] at hclen h2 hlen
          rw [if_pos (by simp; omega)] at hfill
          rw [← writeList _ _ _ (by simp; omega)] at hfill
          obtain ⟨res', g1, g2, g3⟩ := fills_ok hs (fun p hp => hr p (by simp [hp])) hfill h
          refine ⟨res', ?_, g2, ?_⟩
          · simp only [List.map_cons, Instr.fill, hp]
            rw [if_neg]
            · have e : (Array.foldl (fun (cs : Array Value) (x : Value × Nat) => match x with | (c, j) => cs.setIfInBounds (off + j) c) cs' (a.eval x).cells.zipIdx) = writeArr cs' off (a.eval x).cells.toList := by
                rw [← Array.foldl_toList, Array.toList_zipIdx]
                exact foldl_write (a.eval x).cells.toList 0 off cs'
              simp only [e]
              exact g1
            · simp only [ne_eq, Bool.or_eq_true, decide_eq_true_eq]
              omega
          · rw [g3, fillL_length _ _ _ (by omega)]
        · cases h
      · cases h
theorem build_ok (o : Oper) (t : TypeId) (parts : Array (Nat × Operand)) {z : AV} (ho : o.op = .build t parts) (hz : cZero P t = some z)
    {place : Nat → Option (Nat × Nat)} {l : List (Nat × Nat × Opd)} (hl : PRel place parts.toList l)
    (hb : ∀ (zv : Value) (ps : List (Nat × Value)) (cells : Array Value), (∀ w, (zeroValue t).run P w = .ok zv w) → Instr.fill place zv.cells ps = some cells → P.built t ps = some cells) :
    PureOk P o (buildf z.cells l) := by
  intro E μ ρ a v hr h
  unfold buildf at h
  split at h
  · rename_i cs hcs
    cases h
    obtain ⟨zv, hzr, hzv⟩ := cZero_ok hz
    obtain ⟨res', g1, g2, _⟩ := fills_ok (E := E) (μ := μ) (a := a) hl (fun p hp => hr p.2 (by rw [ho]; simp only [Op.operands]; simp only [List.mem_map]; exact ⟨p, hp, rfl⟩)) (hzv E μ).cells hcs
    refine ⟨.agg res', ?_, fun w => ?_⟩
    · have := VRel.agg g2
      simpa using this
    · simp only [execOp, ho]
      refine run_value (run_build w t _ _ ?_)
      rw [Array.toList_map]
      exact hb zv _ _ hzr g1
  · cases h
theorem zero_info {t : TypeId} {z : AV} (hz : cZero P t = some z) : ∃ i zv, P.info? t = some i ∧ i.zero = some zv ∧ ∀ w, (zeroValue t).run P w = .ok zv w := by
  unfold cZero at hz
  cases hi : P.info? t with
  | none => rw [hi] at hz; cases hz
  | some i =>
    rw [hi] at hz
    cases hzz : i.zero with
    | none => simp [hzz] at hz
    | some zv => exact ⟨i, zv, rfl, hzz, fun w => by simp [zeroValue, run_typeInfo hi, hzz]⟩
theorem build_struct_ok (o : Oper) (t : TypeId) (parts : Array (Nat × Operand)) {z : AV} {fs : Array Field} {places : List (Nat × Nat)} {l : List (Nat × Nat × Opd)} (ho : o.op = .build t parts) (hz : cZero P t = some z)
    (ht : P.underlying t = some (.struct fs)) (hp : cPlaces P fs.toList = some places) (hl : cParts places parts.toList = some l) : PureOk P o (buildf z.cells l) := by
  refine build_ok o t parts ho hz (cParts_ok hl) fun zv ps cells hzv hf => ?_
  obtain ⟨i, zv', h1, h2, h3⟩ := zero_info hz
  have : zv = zv' := by
    have e1 := hzv default
    rw [h3] at e1; cases e1; rfl
  subst this
  unfold Program.built
  simp only [h1, ht, h2]
  unfold cPlaces at hp
  simp only [hp]
  simpa using hf
theorem build_array_ok (o : Oper) (t : TypeId) (parts : Array (Nat × Operand)) {z : AV} {n s : Nat} {e : TypeId} (ho : o.op = .build t parts) (hz : cZero P t = some z)
    (ht : P.underlying t = some (.array n e)) (hs : cSize P e = some s) : PureOk P o (buildf z.cells (cElems s parts.toList)) := by
  refine build_ok o t parts ho hz (cElems_ok s _) fun zv ps cells hzv hf => ?_
  obtain ⟨i, zv', h1, h2, h3⟩ := zero_info hz
  have : zv = zv' := by
    have e1 := hzv default
    rw [h3] at e1; cases e1; rfl
  subst this
  unfold cSize at hs
  cases hi : P.info? e with
  | none => rw [hi] at hs; cases hs
  | some ie =>
    rw [hi] at hs
    simp at hs
    unfold Program.built
    simp only [h1, ht, h2, hi]
    rw [← hs] at hf
    exact hf

theorem typeAssert_ok (o : Oper) (x : Operand) (s t : TypeId) (ok : Bool) {z : AV} {d : TypeDesc} (ho : o.op = .typeAssert x s t ok) (ht : P.underlying t = some d) (hd : ∀ ms, d ≠ .interface ms)
    (hz : cZero P t = some z) : PureOk P o (typeAssertf (cOpd x) t z ok) := by
  intro E μ ρ a v hr h
  have hx := hr x (by rw [ho]; simp [Op.operands])
  obtain ⟨zv, hzr, hzv⟩ := cZero_ok hz
  unfold typeAssertf at h
  split at h
  · rename_i u u' e
    have hv := hx _ e
    generalize hxv : a.eval x = xv at hv
    cases hv with | iface hv => ?_
    rename_i v'
    split at h
    · rename_i ht'
      have := beq_t ht'
      subst this
      cases h
      cases ok with
      | true =>
        refine ⟨.tuple #[v', .bool true], .tuple (cs' := [v', .bool true]) (.cons hv (.cons (.bool _) .nil)), fun w => ?_⟩
        simp only [execOp, ho, hxv]
        refine run_value ?_
        unfold Instr.typeAssert
        rw [bind_ok (run_underlying ht w)]
        cases d <;> first | (simp; done) | exact absurd rfl (hd _)
      | false =>
        refine ⟨v', hv, fun w => ?_⟩
        simp only [execOp, ho, hxv]
        refine run_value ?_
        unfold Instr.typeAssert
        rw [bind_ok (run_underlying ht w)]
        cases d <;> first | (simp; done) | exact absurd rfl (hd _)
    · rename_i ht'
      have hne := beq_f ht'
      split at h
      · cases h
        refine ⟨.tuple #[zv, .bool false], .tuple (cs' := [zv, .bool false]) (.cons (hzv E μ) (.cons (.bool _) .nil)), fun w => ?_⟩
        simp only [execOp, ho, hxv]
        refine run_value ?_
        unfold Instr.typeAssert
        rw [bind_ok (run_underlying ht w)]
        cases d <;> first | (simp [hne, hzr]; done) | exact absurd rfl (hd _)
      · cases h
  · rename_i e
    have hv := hx _ e
    generalize hxv : a.eval x = xv at hv
    cases hv
    split at h
    · cases h
      refine ⟨.tuple #[zv, .bool false], .tuple (cs' := [zv, .bool false]) (.cons (hzv E μ) (.cons (.bool _) .nil)), fun w => ?_⟩
      simp only [execOp, ho, hxv]
      refine run_value ?_
      unfold Instr.typeAssert
      rw [bind_ok (run_underlying ht w)]
      cases d <;> first | (simp [hzr]; done) | exact absurd rfl (hd _)
    · cases h
  · cases h
end Go.Ax
