/- Helper text: keys of maps: lookups. -/
import Derived.Test.YtdpebmcdjoadeaaGreatDoorAxOpE
import Derived.Laws.StructEq
namespace Go.Ax
variable {E : Env} {N : Nat} {μ μ' : Mu} {P : Program}

/-- what the model's search says, against the executor's -/
def Found (E : Env) (μ : Mu) : Option (Nat × AV) → Option (Nat × Value) → Prop
  | none, none => True
  | some (j, v), some (j', v') => j = j' ∧ VRel E μ v v'
  | _, _ => False
/-- equal keys, by the model's '==' at the key's type -/
def KeyEqOk (P : Program) (k : TypeId) (n : KK) : Prop := ∀ (E : Env) (μ : Mu) (u u' : AV) (a b : Value) (r : Bool), VRel E μ u a → VRel E μ u' b → keyEq n u u' = some r →
  ∀ w, (Op.equal k a b).run P w = .ok r w
theorem findAsking_ok {k : TypeId} {n : KK} (hk : KeyEqOk P k n) {key : AV} {kv : Value} (hkey : VRel E μ key kv) :
    ∀ {es : List (AV × AV × Nat)} {ents : List MapEntry} {res : Option (Nat × AV)} (i : Nat), ERel E μ es ents → findE n key es i = some res →
    ∃ r, (∀ w, (Instr.findAsking k kv ents i).run P w = .ok r w) ∧ Found E μ res r
  | _, _, res, i, .nil, h => by
    simp only [findE] at h; cases h
    exact ⟨none, fun w => rfl, trivial⟩
  | _, _, res, i, .cons (k := k1) (v := v1) (b := b1) (k' := k1') (v' := v1') h1 h2 hs, h => by
    simp only [findE] at h
    split at h
    · rename_i hq
      cases h
      refine ⟨some (i, v1'), fun w => ?_, rfl, h2⟩
      simp only [Instr.findAsking]
      rw [bind_ok (hk E μ _ _ _ _ _ hkey h1 hq w)]
      rfl
    · rename_i hq
      obtain ⟨r', g1, g2⟩ := findAsking_ok hk hkey (i + 1) hs h
      refine ⟨r', fun w => ?_, g2⟩
      simp only [Instr.findAsking]
      rw [bind_ok (hk E μ _ _ _ _ _ hkey h1 hq w)]
      exact g1 w
    · cases h
theorem byteArray_beq (s t : ByteArray) : (s == t) = (s.data.toList == t.data.toList) := by
  rw [beq_toListBytes, Go.ByteArray.toList_eq, Go.ByteArray.toList_eq]
theorem eqInt_some {a b : AV} {r : Bool} (h : eqInt a b = some r) : ∃ k m m', a = .int k m ∧ b = .int k m' ∧ r = (m == m') := by
  unfold eqInt at h
  split at h
  · split at h
    · rename_i hk
      have := kindEq_t hk; subst this
      cases h
      exact ⟨_, _, _, rfl, rfl, eqB_eq _ _⟩
    · cases h
  · cases h
theorem eqStr_some {a b : AV} {r : Bool} (h : eqStr a b = some r) : ∃ s s', a = .str s ∧ b = .str s' ∧ r = (s == s') := by
  unfold eqStr at h
  split at h
  · cases h
    exact ⟨_, _, rfl, rfl, bytesEq_eq _ _⟩
  · cases h
/-- an integer's or a string's search needs no '==' of the model -/
theorem findNow_ok {d : TypeDesc} {n : KK} {key : AV} {kv : Value} (hkey : VRel E μ key kv) (hi : (n = .int ∧ ∃ k', d = .int k') ∨ (n = .str ∧ d = .string)) :
    ∀ {es : List (AV × AV × Nat)} {ents : List MapEntry} {res : Option (Nat × AV)} (i : Nat), ERel E μ es ents → findE n key es i = some res →
    ∃ r, Instr.findNow d kv ents i = some r ∧ Found E μ res r
  | _, _, res, i, .nil, h => by
    simp only [findE] at h; cases h
    exact ⟨none, rfl, trivial⟩
  | _, _, res, i, .cons (k := k1) (v := v1) (b := b1) (k' := k1') (v' := v1') h1 h2 hs, h => by
    have same : ∀ r, keyEq n key k1 = some r → Instr.sameNow d kv k1' = some r := by
      intro r hr
      rcases hi with ⟨rfl, k2, rfl⟩ | ⟨rfl, rfl⟩
      · simp only [keyEq] at hr
        obtain ⟨k, m, m', rfl, rfl, rfl⟩ := eqInt_some hr
        cases hkey; cases h1
        simp [Instr.sameNow]
      · simp only [keyEq] at hr
        obtain ⟨s, s', rfl, rfl, rfl⟩ := eqStr_some hr
        cases hkey; cases h1
        simp [Instr.sameNow, byteArray_beq]
    simp only [findE] at h
    split at h
    · rename_i hq
      cases h
      refine ⟨some (i, v1'), ?_, rfl, h2⟩
      simp only [Instr.findNow, same _ hq]
    · rename_i hq
      obtain ⟨r', g1, g2⟩ := findNow_ok hkey hi (i + 1) hs h
      refine ⟨r', ?_, g2⟩
      simp only [Instr.findNow, same _ hq]
      exact g1
    · cases h
/-- plain keys by the model's '==' -/
theorem equalIn_int {t : TypeId} {k : IntKind} (ht : P.underlying t = some (.int k)) {u u' : AV} {a b : Value} {r : Bool} (ha : VRel E μ u a) (hb : VRel E μ u' b) (h : eqInt u u' = some r) (d : Nat) (w : World) :
    (Op.equalIn (d + 1) t a b).run P w = .ok r w := by
  obtain ⟨k', m, m', rfl, rfl, rfl⟩ := eqInt_some h
  cases ha; cases hb
  rw [run_equalIn_int w d t _ _ _ _ ht]
theorem equalIn_str {t : TypeId} (ht : P.underlying t = some .string) {u u' : AV} {a b : Value} {r : Bool} (ha : VRel E μ u a) (hb : VRel E μ u' b) (h : eqStr u u' = some r) (d : Nat) (w : World) :
    (Op.equalIn (d + 1) t a b).run P w = .ok r w := by
  obtain ⟨s, s', rfl, rfl, rfl⟩ := eqStr_some h
  cases ha; cases hb
  rw [run_equalIn_string w d t _ _ ht, Go.ByteArray.toList_eq, Go.ByteArray.toList_eq]
theorem plainKey_agg {t : TypeId} {b : Bool} (h : plainKey P t = some b) : (b = true ∧ ∃ k, P.underlying t = some (.int k)) ∨ (b = false ∧ P.underlying t = some .string) := by
  unfold plainKey at h
  split at h
  · rename_i k hk; cases h; exact .inl ⟨rfl, _, hk⟩
  · rename_i hk; cases h; exact .inr ⟨rfl, hk⟩
  · cases h
theorem run_part {t : TypeId} {b : Bool} (h : plainKey P t = some b) {cs : Array Value} {off : Nat} {v : Value} (hv : cs[off]? = some v) (w : World) : (part t cs off).run P w = .ok v w := by
  have ha : cIsAgg P t = some false := by
    unfold cIsAgg
    rcases plainKey_agg h with ⟨_, k, hk⟩ | ⟨_, hk⟩ <;> rw [hk] <;> rfl
  unfold part
  rw [bind_ok (run_isAgg ha w)]
  simp [hv]
/-- fields one by one: the fields from the i-th on, the cells from the i-th on -/
theorem eqFields_ok : ∀ {fs : List Field} {l : List Bool} {i : Nat} {cs cs' : List AV} {vs vs' : Array Value} {r : Bool}, plainFields P i fs = some l →
    LRel E μ cs (vs.toList.drop i) → LRel E μ cs' (vs'.toList.drop i) → keysEq l cs cs' = some r → ∀ (d : Nat) (w : World), (Op.eqFields (d + 1) vs vs' fs).run P w = .ok r w
  | [], l, i, cs, cs', vs, vs', r, hp, _, _, h, d, w => by
    simp only [plainFields] at hp; cases hp
    unfold keysEq at h
    split at h
    · cases h; rfl
    all_goals first | cases h | (rename_i heq _ _; cases heq)
  | f :: fs, l, i, cs, cs', vs, vs', r, hp, hc, hc', h, d, w => by
    simp only [plainFields] at hp
    split at hp
    · cases hp
    · rename_i b hb
      split at hp
      · cases hp
      · rename_i hoff
        split at hp
        · cases hp
        · rename_i hname
          split at hp
          · rename_i l' hl
            cases hp
            have hoff := beq_t hoff
            have hname : f.name ≠ "_" := of_decide_eq_false hname
            generalize hd : vs.toList.drop i = dv at hc
            generalize hd' : vs'.toList.drop i = dv' at hc'
            cases hc with
            | nil => cases b <;> simp [keysEq] at h
            | cons hv hcs =>
              cases hc' with
              | nil => cases b <;> simp [keysEq] at h
              | cons hv' hcs' =>
                rename_i u v us vtl u' v' us' vtl'
                have g1 : vs[f.offset]? = some v := by
                  rw [hoff]
                  have := congrArg (fun l => l[0]?) hd
                  simpa using this
                have g2 : vs'[f.offset]? = some v' := by
                  rw [hoff]
                  have := congrArg (fun l => l[0]?) hd'
                  simpa using this
                have t1 : vs.toList.drop (i + 1) = vtl := by
                  rw [← List.drop_drop, hd]; rfl
                have t2 : vs'.toList.drop (i + 1) = vtl' := by
                  rw [← List.drop_drop, hd']; rfl
                have step : ∀ q, (match b with | true => eqInt u u' | false => eqStr u u') = some q → (Op.eqFields (d + 1) vs vs' (f :: fs)).run P w = (if q then (Op.eqFields (d + 1) vs vs' fs).run P w else .ok false w) := by
                  intro q hq
                  obtain ⟨R, hR⟩ : ∃ R, Op.eqFields (d + 1) vs vs' fs = R := ⟨_, rfl⟩
                  simp only [Op.eqFields, hR]
                  rw [if_pos hname, bind_ok (run_part hb g1 w), bind_ok (run_part hb g2 w)]
                  have : (Op.equalIn (d + 1) f.type v v').run P w = .ok q w := by
                    rcases plainKey_agg hb with ⟨rfl, k, hk⟩ | ⟨rfl, hk⟩
                    · exact equalIn_int hk hv hv' hq d w
                    · exact equalIn_str hk hv hv' hq d w
                  rw [bind_ok this]
                  cases q <;> rfl
                cases b with
                | true =>
                  simp only [keysEq] at h
                  split at h
                  · rename_i hq
                    rw [step true hq]
                    exact eqFields_ok hl (by rw [t1]; exact hcs) (by rw [t2]; exact hcs') h d w
                  · rename_i hq
                    cases h
                    rw [step false hq]; rfl
                  · cases h
                | false =>
                  simp only [keysEq] at h
                  split at h
                  · rename_i hq
                    rw [step true hq]
                    exact eqFields_ok hl (by rw [t1]; exact hcs) (by rw [t2]; exact hcs') h d w
                  · rename_i hq
                    cases h
                    rw [step false hq]; rfl
                  · cases h
          · cases hp
theorem keyEq_ok {k : TypeId} {n : KK} (h : keyNum P k = some n) : KeyEqOk P k n := by
  intro E μ u u' a b r ha hb hq w
  unfold keyNum at h
  split at h
  · rename_i hk
    cases h
    exact equalIn_int hk ha hb hq 9999 w
  · rename_i hk
    cases h
    exact equalIn_str hk ha hb hq 9999 w
  · rename_i fs hk
    split at h
    · rename_i l hl
      split at h
      · cases h
      · rename_i hheld
        cases h
        unfold keyEq at hq
        split at hq
        · rename_i heq; cases heq
        · rename_i heq; cases heq
        · rename_i l' cs cs' heq
          cases heq
          cases ha with | agg ha => ?_
          cases hb with | agg hb => ?_
          have hfs : P.fieldsOf k = fs := by unfold Program.fieldsOf; rw [hk]
          show (Op.equalIn (9999 + 1) k _ _).run P w = _
          rw [run_equalIn_struct w 9999 k _ _ (by rw [hfs]; exact hk) hheld, hfs]
          exact eqFields_ok hl (by simpa using ha) (by simpa using hb) hq 9998 w
        · cases hq
    · cases h
  · cases h
end Go.Ax
