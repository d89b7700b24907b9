/- Helper text: stores into maps, calls; all operations together. -/
import Derived.Test.YtdpebmcdjoadeaaGreatDoorAxOpK
namespace Go.Ax
variable {E : Env} {N : Nat} {μ μ' : Mu} {P : Program}

theorem setMap_ok {h : H} {w w' : World} (r : Rel E N μ h w) {b c c' : Nat} {x : Loc} {es es' : List (AV × AV × Nat)} {ents' : Array MapEntry} (hb : μ b = some x) (hk : T.get h.heap b = some (.map es c))
    (he : ERel E μ es' ents'.toList) (ht : Turned w x.B (.map ents' c') w') : Rel E N μ (setObj b (.map es' c') h) w' ∧ Ext μ h w μ (setObj b (.map es' c') h) w' := by
  have hget : ∀ d k, T.get (setObj b (.map es' c') h).heap d = some k → (d = b ∧ k = .map es' c') ∨ (d ≠ b ∧ T.get h.heap d = some k) := fun d k hd => T.get_set hd
  refine ⟨⟨?_, ?_, ?_, ?_, ?_⟩, ⟨fun _ _ e => e, fun d _ _ => Nat.lt_or_ge d _, fun _ _ e => .inl e, fun _ _ e e' => (by rw [e] at e'; cases e'), Nat.le_refl _, ?_, ?_, Nat.le_of_eq ht.size.symm, ht.os, ht.tape, ht.output⟩⟩
  · intro d y hd
    have := r.own d y hd
    exact ⟨this.1, by rw [ht.size]; exact this.2⟩
  · intro d y k hd hkd
    rcases hget d k hkd with ⟨rfl, rfl⟩ | ⟨hne, hkd⟩
    · rw [hb] at hd; cases hd
      exact ⟨_, ht.at_, ents', rfl, he⟩
    · by_cases hB : y.B = x.B
      · exfalso
        obtain ⟨o, h1, h2⟩ := r.blk d y k hd hkd
        obtain ⟨o', h3, ents, h4, _⟩ := r.blk b x _ hb hk
        subst h4
        rw [hB, h3] at h1; cases h1
        cases k with
        | map es2 c2 => exact hne (r.maps d b y x es2 c2 es c hd hb hB hkd hk)
        | cells sz cs root => obtain ⟨_, _, _, e1, _⟩ := h2; cases e1
      · obtain ⟨o, h1, h2⟩ := r.blk d y k hd hkd
        exact ⟨o, by rw [ht.other _ hB]; exact h1, h2⟩
  · intro d d' y y' sz sz' cs cs' root root' hne hd hd' hB k1 k2
    rcases hget d _ k1 with ⟨_, e⟩ | ⟨_, k1⟩
    · cases e
    · rcases hget d' _ k2 with ⟨_, e⟩ | ⟨_, k2⟩
      · cases e
      · exact r.shares d d' y y' sz sz' cs cs' root root' hne hd hd' hB k1 k2
  · intro d d' y y' e1 c1 e2 c2 hd hd' hB k1 k2
    have key : ∀ d e1 c1, T.get (setObj b (.map es' c') h).heap d = some (.map e1 c1) → ∃ e2 c2, T.get h.heap d = some (.map e2 c2) := by
      intro d e1 c1 hd
      rcases hget d _ hd with ⟨rfl, _⟩ | ⟨_, e⟩
      · exact ⟨_, _, hk⟩
      · exact ⟨_, _, e⟩
    obtain ⟨_, _, q1⟩ := key _ _ _ k1
    obtain ⟨_, _, q2⟩ := key _ _ _ k2
    exact r.maps d d' y y' _ _ _ _ hd hd' hB q1 q2
  · intro d hd
    have hn := r.fresh d hd
    cases hx : T.get (setObj b (.map es' c') h).heap d with
    | none => rfl
    | some k =>
      rcases hget d _ hx with ⟨rfl, _⟩ | ⟨_, e⟩
      · rw [hk] at hn; cases hn
      · rw [hn] at e; cases e
  · intro d hn _
    cases hx : T.get (setObj b (.map es' c') h).heap d with
    | none => rfl
    | some k =>
      rcases hget d _ hx with ⟨rfl, _⟩ | ⟨_, e⟩
      · rw [hk] at hn; cases hn
      · rw [hn] at e; cases e
  · intro B hB hno
    refine ht.other B ?_
    intro e; subst e
    have := hno b x hb rfl
    rw [hk] at this; cases this
theorem setObj_turned {w : World} {B c : Nat} {ents : Array MapEntry} (o : Obj) (h : w.heap[B]? = some (.map ents c)) :
    (Go.setObj B o).run P w = .ok () { w with heap := w.heap.setIfInBounds B o } ∧ Turned w B o { w with heap := w.heap.setIfInBounds B o } := by
  have hlt : B < w.heap.size := by
    rcases Nat.lt_or_ge B w.heap.size with h' | h'
    · exact h'
    · rw [Array.getElem?_eq_none h'] at h; cases h
  refine ⟨by simp [Go.setObj, Sem.run, h], ⟨by simp [hlt], fun B' hne => ?_, by simp, rfl, rfl, rfl⟩⟩
  simp only
  rw [Array.getElem?_setIfInBounds_ne (fun e => hne e.symm)]

theorem findE_at {n : KK} {key : AV} : ∀ {es : List (AV × AV × Nat)} {i j : Nat} {v : AV}, findE n key es i = some (some (j, v)) → i ≤ j ∧ ∃ k1 b1, es[j - i]? = some (k1, v, b1) ∧ keyEq n key k1 = some true
  | [], i, j, v, h => by simp only [findE] at h; cases h
  | (k', v', b') :: es, i, j, v, h => by
    simp only [findE] at h
    split at h
    · rename_i hq
      cases h
      exact ⟨Nat.le_refl _, k', b', by simp, hq⟩
    · obtain ⟨h1, k1, b1, h2, h3⟩ := findE_at h
      refine ⟨by omega, k1, b1, ?_, h3⟩
      have : j - i = (j - (i + 1)) + 1 := by omega
      rw [this]; simpa using h2
    · cases h
theorem ERel.get? : ∀ {es : List (AV × AV × Nat)} {ents : List MapEntry} {j : Nat} {k v : AV} {b : Nat}, ERel E μ es ents → es[j]? = some (k, v, b) → ∃ e, ents[j]? = some e ∧ VRel E μ k e.key ∧ VRel E μ v e.val ∧ e.born = b
  | _, _, 0, k, v, b, .cons hk hv _, h => by simp at h; obtain ⟨rfl, rfl, rfl⟩ := h; exact ⟨_, rfl, hk, hv, rfl⟩
  | _, _, j + 1, k, v, b, .cons _ _ hs, h => by
    obtain ⟨e, h1, h2⟩ := ERel.get? (j := j) hs (by simpa using h)
    exact ⟨e, by simpa using h1, h2⟩
theorem ERel.upd {k v : AV} {k' v' : Value} (hk : VRel E μ k k') (hv : VRel E μ v v') : ∀ {es : List (AV × AV × Nat)} {ents : List MapEntry} (j : Nat), ERel E μ es ents →
    ERel E μ (updE k v j es) (ents.modify j fun e => { e with key := k', val := v' })
  | _, _, j, .nil => by cases j <;> exact .nil
  | _, _, 0, .cons _ _ hs => .cons hk hv hs
  | _, _, j + 1, .cons h1 h2 hs => .cons h1 h2 (ERel.upd hk hv j hs)
theorem keysEq_bits : ∀ {l : List Bool} {cs cs' : List AV} {vs vs' : List Value} (d : Nat), LRel E μ cs vs → LRel E μ cs' vs' → keysEq l cs cs' = some true →
    vs'.length = vs.length ∧ (vs'.zip vs).all (fun (x, y) => Instr.sameBits (d + 1) x y) = true
  | [], cs, cs', vs, vs', d, h1, h2, h => by
    cases h1 with
    | nil => cases h2 with
      | nil => exact ⟨rfl, rfl⟩
      | cons _ _ => simp [keysEq] at h
    | cons _ _ => simp [keysEq] at h
  | b :: l, cs, cs', vs, vs', d, h1, h2, h => by
    cases h1 with
    | nil => cases b <;> simp [keysEq] at h
    | cons hv hs =>
      cases h2 with
      | nil => cases b <;> simp [keysEq] at h
      | cons hv' hs' =>
        cases b with
        | true =>
          simp only [keysEq] at h
          split at h
          · rename_i hq
            obtain ⟨k, m, m', rfl, rfl, hmm⟩ := eqInt_some hq
            cases hv; cases hv'
            have hmm : m = m' := by simpa using hmm.symm
            subst hmm
            obtain ⟨g1, g2⟩ := keysEq_bits d hs hs' h
            exact ⟨by simp [g1], by simp only [List.zip_cons_cons, List.all_cons, g2, Bool.and_true]; simp [Instr.sameBits]⟩
          · cases h
          · cases h
        | false =>
          simp only [keysEq] at h
          split at h
          · rename_i hq
            obtain ⟨s, s', rfl, rfl, hss⟩ := eqStr_some hq
            cases hv with | str t => ?_
            generalize hgen : t.data.toList = tl at hss
            cases hv' with | str t' => ?_
            obtain ⟨g1, g2⟩ := keysEq_bits d hs hs' h
            have : (t' == t) = true := by
              rw [byteArray_beq, beq_iff_eq]
              have := hss.symm
              rw [beq_iff_eq] at this
              rw [hgen]; exact this.symm
            exact ⟨by simp [g1], by simp only [List.zip_cons_cons, List.all_cons, g2, Bool.and_true, Instr.sameBits]; exact this⟩
          · cases h
          · cases h
theorem sameBits_ok {n : KK} {u u' : AV} {a b : Value} (ha : VRel E μ u a) (hb : VRel E μ u' b) (h : keyEq n u u' = some true) : Instr.sameBits 10000 b a = true := by
  unfold keyEq at h
  split at h
  · obtain ⟨k, m, m', rfl, rfl, hmm⟩ := eqInt_some h
    cases ha; cases hb
    have hmm : m = m' := by simpa using hmm.symm
    subst hmm
    simp [Instr.sameBits]
  · obtain ⟨s, s', rfl, rfl, hss⟩ := eqStr_some h
    cases ha with | str t => ?_
    generalize hgen : t.data.toList = tl at hss
    cases hb with | str t' => ?_
    show (t' == t) = true
    rw [byteArray_beq, beq_iff_eq]
    have := hss.symm
    rw [beq_iff_eq] at this
    rw [hgen]; exact this.symm
  · cases ha with | agg ha => ?_
    cases hb with | agg hb => ?_
    obtain ⟨g1, g2⟩ := keysEq_bits 9998 ha hb h
    show (_ == _ && _) = true
    simp only [List.size_toArray, g1, beq_self_eq_true, Bool.true_and]
    exact g2
  · cases h

theorem mapUpdate_ok (o : Oper) (m k v : Operand) {t kt et : TypeId} {n : KK} (ho : o.op = .mapUpdate t m k v) (ht : P.underlying t = some (.map kt et)) (hn : keyNum P kt = some n) : LoudOk P o (mapUpdatef n (cOpd m) (cOpd k) (cOpd v)) := by
  intro E N μ ρ a h w hr r _
  have hm := hr m (by rw [ho]; simp [Op.operands])
  have hk := hr k (by rw [ho]; simp [Op.operands])
  have hv := hr v (by rw [ho]; simp [Op.operands])
  unfold mapUpdatef
  split
  · rename_i b em
    split
    · rename_i key ek
      split
      · rename_i val ev
        split
        · rename_i hfit
          split
          · rename_i es c hg
            have hmr := hm _ em
            generalize hme : a.eval m = me at hmr
            cases hmr with | map hb => ?_
            rename_i loc
            obtain ⟨ents, h1, h2⟩ := getMap_ok r hb hg
            have hkr := hk _ ek
            have hvr := hv _ ev
            have hget : T.get h.heap b = some (.map es c) := by
              unfold getMap at hg
              split at hg
              · rename_i hkk; cases hg; exact hkk
              · cases hg
            have start : ∀ (R : Option (Nat × Value)) (w' : World), (∀ w, (Instr.findKey kt (a.eval k) ents.toList).run P w = .ok R w) →
                ((match R with
                  | some (i, _) => (do
                    let key ← Instr.keyThatStays (((ents[i]?).map (fun e : MapEntry => e.key)).getD (a.eval k)) (a.eval k)
                    Go.setObj loc.B (.map (ents.modify i fun e => { e with key, val := a.eval v }) c) : Sem Unit)
                  | none => Go.setObj loc.B (.map (ents.push { key := a.eval k, val := a.eval v, born := c }) (c + 1))).run P w = .ok () w') →
                (execOp a.eval o).run P w = .ok .skip w' := by
              intro R w' hR hrest
              simp only [execOp, ho, hme]
              refine run_skip ?_
              unfold Instr.mapUpdate
              rw [bind_ok (run_underlying ht w)]
              simp only
              rw [bind_ok (run_getObj h1)]
              simp only
              rw [bind_ok (checkKey_ok hn hkr hfit _ w), bind_ok (hR w)]
              cases R with
              | none => exact hrest
              | some p => exact hrest
            split
            · rename_i j v0 hfe
              intro _
              obtain ⟨R, g1, g2⟩ := findKey_ok hn hkr hfit h2 hfe
              cases R with
              | none => exact g2.elim
              | some p =>
                obtain ⟨j', v0'⟩ := p
                obtain ⟨rfl, _⟩ := g2
                obtain ⟨_, k1, b1, q1, q2⟩ := findE_at hfe
                rw [Nat.sub_zero] at q1
                obtain ⟨e, q3, q4, q5, q6⟩ := h2.get? q1
                have hbits := sameBits_ok hkr q4 q2
                obtain ⟨f1, f2⟩ := setObj_turned (P := P) (.map (ents.modify j fun e => { e with key := a.eval k, val := a.eval v }) c) h1
                have hst := start (some (j, v0')) _ g1 (by
                  simp only
                  have : ((ents[j]?).map (fun e : MapEntry => e.key)).getD (a.eval k) = e.key := by
                    rw [← Array.getElem?_toList, q3]; rfl
                  rw [this]
                  have hks : (Instr.keyThatStays e.key (a.eval k)).run P w = .ok (a.eval k) w := by
                    unfold Instr.keyThatStays
                    rw [if_pos hbits]; rfl
                  rw [bind_ok hks]; exact f1)
                have he := ERel.upd hkr hvr j h2
                rw [← Array.toList_modify] at he
                obtain ⟨z1, z2⟩ := setMap_ok r hb hget he f2
                exact ⟨μ, _, undef, .skip, hst, .inr ⟨rfl, rfl⟩, undef_rel, z1, z2⟩
            · rename_i hfe
              intro _
              obtain ⟨R, g1, g2⟩ := findKey_ok hn hkr hfit h2 hfe
              cases R with
              | some p => exact g2.elim
              | none =>
                obtain ⟨f1, f2⟩ := setObj_turned (P := P) (.map (ents.push { key := a.eval k, val := a.eval v, born := c }) (c + 1)) h1
                have hst := start none _ g1 f1
                have he : ERel E μ (es ++ [(key, val, c)]) (ents.push { key := a.eval k, val := a.eval v, born := c }).toList := by
                  rw [Array.toList_push]
                  exact h2.append (.cons hkr hvr .nil)
                obtain ⟨z1, z2⟩ := setMap_ok r hb hget he f2
                exact ⟨μ, _, undef, .skip, hst, .inr ⟨rfl, rfl⟩, undef_rel, z1, z2⟩
            · trivial
          · trivial
        · trivial
      · trivial
    · trivial
  · trivial

/-! calls -/
theorem callFunc_run {f : FuncId} (h : HasBody P f) (args : Array Value) (w : World) : (callFunc f args).run P w = .ok (.enter f args) w := by
  obtain ⟨fn, c, h1, h2, h3⟩ := h
  unfold callFunc
  have hp : (program).run P w = .ok P w := rfl
  rw [bind_ok hp, h1]
  simp only [h3, h2]
  rfl
theorem callF_ok (o : Oper) (c : Call) (f : FuncId) (ho : o.op = .call c) (hc : c.callee = .value (.func f)) : LoudOk P o (callFf f (cArgs c.args.toList)) := by
  intro E N μ ρ a h w hr r _
  unfold callFf
  split
  · rename_i vs hvs
    intro hb
    have hl := evs_ok (E := E) (μ := μ) (a := a) c.args.toList vs (fun x hx => hr x (call_mem ho hx)) hvs
    refine ⟨c.args.map a.eval, ?_, by rw [Array.toList_map]; exact hl⟩
    simp only [execOp, ho]
    have : (resolve a.eval c o.type).run P w = .ok { target := .fn (.func f) #[], args := c.args.map a.eval } w := by
      unfold resolve
      simp only [hc]
      show (Deferred.ofValue (a.eval (.func f)) (c.args.map a.eval)).run P w = _
      simp [Act.eval, Deferred.ofValue]
    rw [bind_ok this]
    show (callFunc f (c.args.map a.eval ++ #[])).run P w = _
    rw [Array.append_empty]
    exact callFunc_run hb _ w
  · trivial
theorem callV_ok (o : Oper) (c : Call) (x : Operand) (ho : o.op = .call c) (hc : c.callee = .value x) : LoudOk P o (callVf (cOpd x) (cArgs c.args.toList)) := by
  intro E N μ ρ a h w hr r _
  unfold callVf
  split
  · rename_i f as cs hf
    split
    · rename_i vs hvs
      intro hb
      have hl := evs_ok (E := E) (μ := μ) (a := a) c.args.toList vs (fun x hx => hr x (call_mem ho hx)) hvs
      have hx := hr x (by rw [ho]; simp [Op.operands, Call.operands, hc]) _ hf
      generalize hxe : a.eval x = xe at hx
      cases hx with | func h1 h2 => ?_
      rename_i a' c'
      refine ⟨a'.toArray ++ c.args.map a.eval ++ c'.toArray, ?_, ?_⟩
      · simp only [execOp, ho]
        have : (resolve a.eval c o.type).run P w = .ok { target := .fn (.func f) c'.toArray, args := a'.toArray ++ c.args.map a.eval } w := by
          unfold resolve
          simp only [hc, hxe]
          rfl
        rw [bind_ok this]
        exact callFunc_run hb _ w
      · simp only [Array.toList_append, Array.toList_map]
        exact (h1.append hl).append h2
    · trivial
  · trivial

/-! taking out -/
theorem ERel.del : ∀ {es : List (AV × AV × Nat)} {ents : List MapEntry} (j : Nat), ERel E μ es ents → ERel E μ (delE j es) (ents.eraseIdx j)
  | _, _, j, .nil => by cases j <;> exact .nil
  | _, _, 0, .cons _ _ hs => hs
  | _, _, j + 1, .cons h1 h2 hs => .cons h1 h2 (ERel.del j hs)
theorem getMap_some {h : H} {b c : Nat} {es : List (AV × AV × Nat)} (hg : getMap h b = some (es, c)) : T.get h.heap b = some (.map es c) := by
  unfold getMap at hg
  split at hg
  · rename_i hkk; cases hg; exact hkk
  · cases hg
theorem clear_ok {o : Oper} {c : Call} {x : Operand} {t e : TypeId} {z : AV} (ho : o.op = .call c) (hc : c.callee = .builtin .clear) (ha : c.args = #[x]) (ht0 : c.argTypes[0]? = some t)
    (ht : P.underlying t = some (.slice e)) (hz : cZero P e = some z) : LoudOk P o (clearf z.cells (cOpd x)) := by
  intro E N μ ρ a h w hr r _
  have hx := hr x (call_mem ho (by rw [ha]; simp))
  have conv : ∀ w', (Builtin.clear_ c.argTypes o.type #[a.eval x]).run P w = .ok (.tuple #[]) w' → (execOp a.eval o).run P w = .ok (.value (.tuple #[])) w' := fun w' hq =>
    builtin_value ho hc (s := Builtin.clear_ c.argTypes o.type #[a.eval x]) (by rw [ha]; simp [builtin]) hq
  have hun : VRel E μ (.tuple []) (.tuple #[]) := VRel.tuple (cs' := []) .nil
  unfold clearf
  split
  · rename_i ex
    intro _
    have hv := hx _ ex
    generalize hxe : a.eval x = xv at hv conv
    cases hv
    exact ⟨μ, w, _, _, conv w (by unfold Builtin.clear_; simp [ht0, run_underlying ht]), .inl rfl, hun, r, Ext.refl _ _ _⟩
  · rename_i b off len cap zz loose ex
    have hv := hx _ ex
    generalize hxe : a.eval x = xv at hv conv
    cases hv with | slice hb hs hl hcc htt hn => ?_
    rename_i cap' loc
    split
    · split
      · rename_i hone
        split
        · rename_i h' hp
          intro _
          obtain ⟨zv, hzv, hzr⟩ := cZero_ok hz
          have hrepl : ∀ n, allOne (repl n z.cells) = true := by
            have happ : ∀ l m : List AV, allOne l = true → allOne m = true → allOne (l ++ m) = true := by
              intro l
              induction l with
              | nil => intro m _ h; exact h
              | cons y ys ih =>
                intro m h1 h2
                rw [List.cons_append]
                unfold allOne at h1 ⊢
                split at h1
                · exact ih m h1 h2
                · cases h1
            intro n
            induction n with
            | zero => rfl
            | succ n ih => exact happ _ _ hone ih
          obtain ⟨w', g1, g2, g3, _⟩ := putCells_ok (P := P) r hb hs (zeros_rel (hzr E μ).cells len) (hrepl len) hp
          refine ⟨μ, w', _, _, conv w' ?_, .inl rfl, hun, g2, g3⟩
          unfold Builtin.clear_
          cases len with
          | zero =>
            have : h' = h ∧ w' = w := by
              have hp0 : putCells h b off (repl 0 z.cells) = some h := rfl
              have hs0 : (storeCells ⟨loc.B, off - loc.s, none⟩ (((Array.range (0 * zv.cells.size)).map (fun j => zv.cells[j % zv.cells.size]!)).toList)).run P w = .ok () w := by
                simp [storeCells]
              rw [hp0] at hp; cases hp
              rw [hs0] at g1; cases g1
              exact ⟨rfl, rfl⟩
            rw [this.2]
            simp [ht0, run_underlying ht]
          | succ n =>
            simp only [List.getElem?_toArray, List.getElem?_cons_zero, ht0]
            rw [bind_ok (run_underlying ht w)]
            simp only
            rw [bind_ok (hzv w), bind_ok (show (storeCells ⟨loc.B, off - loc.s, none⟩ (Builtin.zeroCells zv.cells (n + 1)).toList).run P w = .ok () w' from g1)]
            rfl
        · trivial
      · trivial
    · trivial
  · trivial
theorem clearMap_ok {o : Oper} {c : Call} {x : Operand} {t k e : TypeId} (ho : o.op = .call c) (hc : c.callee = .builtin .clear) (ha : c.args = #[x]) (ht0 : c.argTypes[0]? = some t)
    (ht : P.underlying t = some (.map k e)) : LoudOk P o (clearMf (cOpd x)) := by
  intro E N μ ρ a h w hr r _
  have hx := hr x (call_mem ho (by rw [ha]; simp))
  have conv : ∀ w', (Builtin.clear_ c.argTypes o.type #[a.eval x]).run P w = .ok (.tuple #[]) w' → (execOp a.eval o).run P w = .ok (.value (.tuple #[])) w' := fun w' hq =>
    builtin_value ho hc (s := Builtin.clear_ c.argTypes o.type #[a.eval x]) (by rw [ha]; simp [builtin]) hq
  have hun : VRel E μ (.tuple []) (.tuple #[]) := VRel.tuple (cs' := []) .nil
  unfold clearMf
  split
  · rename_i ex
    intro _
    have hv := hx _ ex
    generalize hxe : a.eval x = xv at hv conv
    cases hv
    exact ⟨μ, w, _, _, conv w (by unfold Builtin.clear_; simp [ht0, run_underlying ht]), .inl rfl, hun, r, Ext.refl _ _ _⟩
  · rename_i b ex
    have hv := hx _ ex
    generalize hxe : a.eval x = xv at hv conv
    cases hv with | map hb => ?_
    split
    · rename_i es cc hg
      intro _
      obtain ⟨ents, h1, h2⟩ := getMap_ok r hb hg
      obtain ⟨f1, f2⟩ := setObj_turned (P := P) (.map #[] cc) h1
      obtain ⟨z1, z2⟩ := setMap_ok (es' := []) (ents' := #[]) (c' := cc) r hb (getMap_some hg) .nil f2
      refine ⟨μ, _, _, _, conv _ ?_, .inl rfl, hun, z1, z2⟩
      unfold Builtin.clear_
      simp [ht0, run_underlying ht, run_getObj h1, f1]
    · trivial
  · trivial
theorem delete_ok {o : Oper} {c : Call} {m k : Operand} {t kt et : TypeId} {n : KK} (ho : o.op = .call c) (hc : c.callee = .builtin .delete) (ha : c.args = #[m, k]) (ht0 : c.argTypes[0]? = some t)
    (ht : P.underlying t = some (.map kt et)) (hn : keyNum P kt = some n) : LoudOk P o (deletef n (cOpd m) (cOpd k)) := by
  intro E N μ ρ a h w hr r _
  have hm := hr m (call_mem ho (by rw [ha]; simp))
  have hk := hr k (call_mem ho (by rw [ha]; simp))
  have conv : ∀ w', (Builtin.delete_ c.argTypes o.type #[a.eval m, a.eval k]).run P w = .ok (.tuple #[]) w' → (execOp a.eval o).run P w = .ok (.value (.tuple #[])) w' := fun w' hq =>
    builtin_value ho hc (s := Builtin.delete_ c.argTypes o.type #[a.eval m, a.eval k]) (by rw [ha]; simp [builtin]) hq
  have hun : VRel E μ (.tuple []) (.tuple #[]) := VRel.tuple (cs' := []) .nil
  unfold deletef
  split
  · rename_i key ek
    have hkr := hk _ ek
    split
    · rename_i hfit
      split
      · rename_i em
        intro _
        have hv := hm _ em
        generalize hxe : a.eval m = mv at hv conv
        cases hv
        refine ⟨μ, w, _, _, conv w ?_, .inl rfl, hun, r, Ext.refl _ _ _⟩
        unfold Builtin.delete_
        simp [ht0, run_underlying ht, checkKey_ok hn hkr hfit]
      · rename_i b em
        have hv := hm _ em
        generalize hxe : a.eval m = mv at hv conv
        cases hv with | map hb => ?_
        rename_i loc
        split
        · rename_i es cc hg
          obtain ⟨ents, h1, h2⟩ := getMap_ok r hb hg
          have run : ∀ (R : Option (Nat × Value)) (w' : World), (∀ w, (Instr.findKey kt (a.eval k) ents.toList).run P w = .ok R w) →
              (match R with
                | some (i, _) => Go.setObj loc.B (.map (ents.eraseIdxIfInBounds i) cc)
                | none => Go.setObj loc.B (.map ents cc)).run P w = .ok () w' → (Builtin.delete_ c.argTypes o.type #[.map (some loc.B), a.eval k]).run P w = .ok (.tuple #[]) w' := by
            intro R w' hR hrest
            unfold Builtin.delete_
            cases R with
            | none => simp [ht0, run_underlying ht, checkKey_ok hn hkr hfit, run_getObj h1, hR, hrest]
            | some p => simp [ht0, run_underlying ht, checkKey_ok hn hkr hfit, run_getObj h1, hR, hrest]
          split
          · rename_i j v0 hfe
            intro _
            obtain ⟨R, g1, g2⟩ := findKey_ok hn hkr hfit h2 hfe
            cases R with
            | none => exact g2.elim
            | some p =>
              obtain ⟨j', v0'⟩ := p
              obtain ⟨rfl, _⟩ := g2
              obtain ⟨f1, f2⟩ := setObj_turned (P := P) (.map (ents.eraseIdxIfInBounds j) cc) h1
              have he : ERel E μ (delE j es) (ents.eraseIdxIfInBounds j).toList := by
                have := ERel.del j h2
                rwa [← Array.toList_eraseIdxIfInBounds] at this
              obtain ⟨z1, z2⟩ := setMap_ok r hb (getMap_some hg) he f2
              exact ⟨μ, _, _, _, conv _ (run _ _ g1 f1), .inl rfl, hun, z1, z2⟩
          · rename_i hfe
            intro _
            obtain ⟨R, g1, g2⟩ := findKey_ok hn hkr hfit h2 hfe
            cases R with
            | some p => exact g2.elim
            | none =>
              obtain ⟨f1, f2⟩ := setObj_turned (P := P) (.map ents cc) h1
              obtain ⟨z1, z2⟩ := setMap_ok r hb (getMap_some hg) h2 f2
              exact ⟨μ, _, _, _, conv _ (run _ _ g1 f1), .inl rfl, hun, z1, z2⟩
          · trivial
        · trivial
      · trivial
    · trivial
  · trivial

/-! all together -/
def KOk (P : Program) (o : Oper) : OpK → Prop
  | .pure f => PureOk P o f
  | .read f => ReadOk P o f
  | .new f => NewOk P o f
  | .loud f => LoudOk P o f
  | .bad _ => True
theorem cBuiltin_ok (o : Oper) (c : Call) (b : Builtin) (ho : o.op = .call c) (hc : c.callee = .builtin b) : KOk P o (cBuiltin P b c) := by
  unfold cBuiltin
  split
  · -- len
    rename_i x hx
    obtain ⟨y, hy, rfl⟩ := args_one hx
    unfold cLen
    split
    · rename_i t ht0
      split
      · rename_i e ht; exact lenSlc_ok o c y ho hc hy ht0 ht
      · rename_i ht; exact lenStr_ok o c y ho hc hy ht0 ht
      · rename_i k e ht; exact lenMap_ok o c y ho hc hy ht0 ht
      · trivial
    · trivial
  · exact foldB_ok o c .min ho hc min2_run (fun ts t cs x xs => by simp [builtin, Builtin.min_])
  · exact foldB_ok o c .max ho hc max2_run (fun ts t cs x xs => by simp [builtin, Builtin.max_])
  · -- append
    rename_i s x hx
    obtain ⟨y, y', hy, rfl, rfl⟩ := args_two hx
    unfold cAppend
    split
    · rename_i t u ht0 hu0
      split
      · rename_i e e' ht hu
        split
        · rename_i n bt z hn hb hz
          split
          · rename_i hzl
            exact append_ok ⟨ho, hc, hy, ht0, hu0, ht, .inl ⟨_, hu⟩, hn, hb, hz, beq_t hzl⟩
          · trivial
        · trivial
      · rename_i e ht hu
        split
        · rename_i n bt z hn hb hz
          split
          · rename_i hzl
            exact append_ok ⟨ho, hc, hy, ht0, hu0, ht, .inr hu, hn, hb, hz, beq_t hzl⟩
          · trivial
        · trivial
      · trivial
    · trivial
  · -- copy
    rename_i s x hx
    obtain ⟨y, y', hy, rfl, rfl⟩ := args_two hx
    unfold cCopy
    split
    · rename_i t ht0
      split
      · rename_i e ht
        split
        · rename_i n hn
          exact copy_ok ho hc hy ht0 ht hn
        · trivial
      · trivial
    · trivial
  · -- clear
    rename_i x hx
    obtain ⟨y, hy, rfl⟩ := args_one hx
    unfold cClear
    split
    · rename_i t ht0
      split
      · rename_i e ht
        split
        · rename_i z hz; exact clear_ok ho hc hy ht0 ht hz
        · trivial
      · rename_i k e ht; exact clearMap_ok ho hc hy ht0 ht
      · trivial
    · trivial
  · -- delete
    rename_i s x hx
    obtain ⟨y, y', hy, rfl, rfl⟩ := args_two hx
    unfold cDelete
    split
    · rename_i t ht0
      split
      · rename_i kt et ht
        split
        · rename_i n hn; exact delete_ok ho hc hy ht0 ht hn
        · trivial
      · trivial
    · trivial
  · trivial
end Go.Ax
