/- Helper text: lookups in maps; stores into maps. -/
import Derived.Test.YtdpebmcdjoadeaaGreatDoorAxOpF
namespace Go.Ax
variable {E : Env} {N : Nat} {μ μ' : Mu} {P : Program}

theorem LRel.le_length {cs : List AV} {vs : List Value} (h : LRel E μ cs vs) : vs.length = cs.length := h.length
theorem checkFields_ok (em : Bool) (n : Nat) : ∀ {fs : List Field} {l : List Bool} {i : Nat} (vs : Array Value), plainFields P i fs = some l → i + l.length ≤ vs.size → ∀ (w : World),
    (forIn fs PUnit.unit (fun f _ =>
      if f.name ≠ "_" then (part f.type vs f.offset >>= fun x => Instr.checkKey em (n + 1) f.type x >>= fun _ => pure (ForInStep.yield PUnit.unit))
      else (pure (ForInStep.yield PUnit.unit) : Sem (ForInStep PUnit)))).run P w = .ok PUnit.unit w
  | [], l, i, vs, _, _, w => rfl
  | f :: fs, l, i, vs, hp, hs, w => by
    simp only [plainFields] at hp
    split at hp
    · cases hp
    · rename_i b hb
      split at hp
      · cases hp
      · rename_i hoff
        split at hp
        · cases hp
        · rename_i hname
          split at hp
          · rename_i l' hl
            cases hp
            have hoff := beq_t hoff
            have hname : f.name ≠ "_" := of_decide_eq_false hname
            simp only [List.length_cons] at hs
            have g1 : vs[f.offset]? = some (vs[i]'(by omega)) := by rw [hoff, Array.getElem?_eq_getElem (by omega)]
            have hc : (Instr.checkKey em (n + 1) f.type (vs[i]'(by omega))).run P w = .ok () w := by
              unfold Instr.checkKey
              rcases plainKey_agg hb with ⟨_, k, hk⟩ | ⟨_, hk⟩
              · rw [bind_ok (run_underlying hk w)]; rfl
              · rw [bind_ok (run_underlying hk w)]; rfl
            rw [List.forIn_cons]
            rw [if_pos hname]
            rw [bind_assoc, bind_ok (run_part hb g1 w), bind_assoc, bind_ok hc]
            exact checkFields_ok em n vs hl (by omega) w
          · cases hp
theorem checkKey_ok {k : TypeId} {n : KK} (h : keyNum P k = some n) {u : AV} {a : Value} (ha : VRel E μ u a) (hf : keyFits n u = true) (em : Bool) (w : World) :
    (Instr.checkKey em 10000 k a).run P w = .ok () w := by
  show (Instr.checkKey em (9999 + 1) k a).run P w = _
  unfold keyNum at h
  split at h
  · rename_i hk
    unfold Instr.checkKey
    rw [bind_ok (run_underlying hk w)]; rfl
  · rename_i hk
    unfold Instr.checkKey
    rw [bind_ok (run_underlying hk w)]; rfl
  · rename_i fs hk
    split at h
    · rename_i l hl
      split at h
      · cases h
      · cases h
        cases u <;> simp only [keyFits] at hf <;> try (cases hf; done)
        rename_i cs
        cases ha with | agg ha => ?_
        rename_i vs
        have hf := beq_t hf
        have hlen := ha.length
        unfold Instr.checkKey
        rw [bind_ok (run_underlying hk w)]
        simp only
        rw [← Array.forIn_toList]
        have := checkFields_ok (P := P) em 9998 vs.toArray hl (by simp; omega) w
        rw [bind_ok this]; rfl
    · cases h
  · cases h

theorem findKey_ok {k : TypeId} {n : KK} (h : keyNum P k = some n) {key : AV} {kv : Value} (hkey : VRel E μ key kv) (hf : keyFits n key = true) {es : List (AV × AV × Nat)} {ents : List MapEntry} {res : Option (Nat × AV)}
    (he : ERel E μ es ents) (hr : findE n key es 0 = some res) : ∃ r, (∀ w, (Instr.findKey k kv ents).run P w = .ok r w) ∧ Found E μ res r := by
  have hcases : (n = .int ∧ ∃ k', P.underlying k = some (.int k')) ∨ (n = .str ∧ P.underlying k = some .string) ∨ (∃ l fs, n = .flds l ∧ P.underlying k = some (.struct fs)) := by
    unfold keyNum at h
    split at h
    · rename_i hk; cases h; exact .inl ⟨rfl, _, hk⟩
    · rename_i hk; cases h; exact .inr (.inl ⟨rfl, hk⟩)
    · rename_i fs hk
      split at h
      · split at h
        · cases h
        · cases h; exact .inr (.inr ⟨_, _, rfl, hk⟩)
      · cases h
    · cases h
  rcases hcases with ⟨rfl, k', hk⟩ | ⟨rfl, hk⟩ | ⟨l, fs, rfl, hk⟩
  · obtain ⟨r, g1, g2⟩ := findNow_ok (d := .int k') hkey (.inl ⟨rfl, _, rfl⟩) 0 he hr
    refine ⟨r, fun w => ?_, g2⟩
    unfold Instr.findKey
    rw [bind_ok (run_underlying hk w), g1]; rfl
  · obtain ⟨r, g1, g2⟩ := findNow_ok (d := .string) hkey (.inr ⟨rfl, rfl⟩) 0 he hr
    refine ⟨r, fun w => ?_, g2⟩
    unfold Instr.findKey
    rw [bind_ok (run_underlying hk w), g1]; rfl
  · obtain ⟨r, g1, g2⟩ := findAsking_ok (keyEq_ok h) hkey 0 he hr
    cases ents with
    | nil =>
      refine ⟨r, fun w => ?_, g2⟩
      have : r = none := by
        have := g1 default
        simp only [Instr.findAsking] at this
        cases this; rfl
      subst this
      unfold Instr.findKey
      rw [bind_ok (run_underlying hk w)]; rfl
    | cons e ents =>
      refine ⟨r, fun w => ?_, g2⟩
      have hn : Instr.findNow (.struct fs) kv (e :: ents) 0 = none := by
        simp only [Instr.findNow]
        have : Instr.sameNow (.struct fs) kv e.key = none := by unfold Instr.sameNow; rfl
        rw [this]
      unfold Instr.findKey
      rw [bind_ok (run_underlying hk w), hn]
      exact g1 w
theorem lookup_ok (o : Oper) (x i : Operand) {t k e : TypeId} {n : KK} {z : AV} (ok : Bool) (ho : o.op = .lookup t x i ok) (ht : P.underlying t = some (.map k e)) (hn : keyNum P k = some n) (hz : cZero P e = some z) :
    ReadOk P o (lookupf n z ok (cOpd x) (cOpd i)) := by
  intro E N μ ρ a h w v hr r hf
  have hx := hr x (by rw [ho]; simp [Op.operands])
  have hi := hr i (by rw [ho]; simp [Op.operands])
  unfold lookupf at hf
  split at hf
  · rename_i b eb
    split at hf
    · rename_i key hkey
      split at hf
      · rename_i hfit
        split at hf
        · rename_i es c hg
          have hv := hx _ eb
          generalize hxv : a.eval x = xv at hv
          cases hv with | map hb => ?_
          obtain ⟨ents, h1, h2⟩ := getMap_ok r hb hg
          have hkv := hi _ hkey
          unfold lookupIn at hf
          obtain ⟨zv, hzr, hzv⟩ := cZero_ok hz
          have start : ∀ (R : Option (Nat × Value)) (q : Value), (∀ w, (Instr.findKey k (a.eval i) ents.toList).run P w = .ok R w) →
              (match R with
                | some (_, v) => q = (if ok then .tuple #[v, .bool true] else v)
                | none => q = (if ok then .tuple #[zv, .bool false] else zv)) →
              (execOp a.eval o).run P w = .ok (.value q) w := by
            intro R q hR hq
            simp only [execOp, ho, hxv]
            refine run_value ?_
            unfold Instr.lookup
            rw [bind_ok (run_underlying ht w)]
            simp only
            rw [bind_ok (run_getObj h1)]
            simp only [pure_bind]
            rw [bind_ok (checkKey_ok hn hkv hfit _ w), bind_ok (hR w)]
            cases R with
            | none =>
              simp only at hq
              subst hq
              simp only
              rw [bind_ok (hzr w)]
              rfl
            | some p =>
              obtain ⟨j, vv⟩ := p
              simp only at hq
              subst hq
              rfl
          split at hf
          · rename_i j1 v1 hfe
            obtain ⟨R, g1, g2⟩ := findKey_ok hn hkv hfit h2 hfe
            cases R with
            | none => exact g2.elim
            | some p =>
              obtain ⟨j, vv⟩ := p
              obtain ⟨_, f1⟩ := g2
              cases hf
              cases ok with
              | true => exact ⟨_, .tuple (cs' := [vv, .bool true]) (.cons f1 (.cons (.bool _) .nil)), start _ _ g1 rfl⟩
              | false => exact ⟨_, f1, start _ _ g1 rfl⟩
          · rename_i hfe
            obtain ⟨R, g1, g2⟩ := findKey_ok hn hkv hfit h2 hfe
            cases R with
            | some p => exact g2.elim
            | none =>
              cases hf
              cases ok with
              | true => exact ⟨_, .tuple (cs' := [zv, .bool false]) (.cons (hzv E μ) (.cons (.bool _) .nil)), start _ _ g1 rfl⟩
              | false => exact ⟨_, hzv E μ, start _ _ g1 rfl⟩
          · cases hf
        · cases hf
      · cases hf
    · cases hf
  · cases hf
end Go.Ax
