/- Helper text: append as a whole, copies, stores into maps, calls. -/
import Derived.Test.YtdpebmcdjoadeaaGreatDoorAxOpJ
namespace Go.Ax
variable {E : Env} {N : Nat} {μ μ' : Mu} {P : Program}

theorem append_ok {o : Oper} {c : Call} {t u e : TypeId} {size bytes : Nat} {z : AV} {s x : Operand} (k : AppOk P o c t u e size bytes z s x) : LoudOk P o (appendf size bytes (cOpd s) (cOpd x)) := by
  intro E N μ ρ a h w hr r hN
  have hs := hr s (call_mem k.op (by rw [k.args]; simp))
  have hx := hr x (call_mem k.op (by rw [k.args]; simp))
  unfold appendf
  split
  · rename_i sv hsv
    split
    · rename_i xv hxv
      split
      · rename_i n vs hsrc
        split
        · rename_i hone
          have hsr := hs _ hsv
          have hxr := hx _ hxv
          obtain ⟨news, hrel, hsrcP⟩ := src_of k r hxr hsrc hone
          have hnl := hsrcP.newsLen
          unfold appendA
          split
          · -- nil
            generalize hse : a.eval s = se at hsr
            cases hsr
            split
            · -- nothing comes
              intro _
              have h0 : vs = [] := by
                have := hrel.length
                rw [hnl] at this
                simp at this
                exact List.eq_nil_of_length_eq_zero this.symm
              subst h0
              cases hrel
              obtain ⟨i, zv, g1, g2, _⟩ := k.info
              have := run_append_nothing (P := P) w t u o.type e i k.ht g1 none 0 0 (Nat.le_refl _) (a.eval x) (by rw [g2]; exact hsrcP)
              exact ⟨μ, w, _, _, k.run (by rw [hse]; exact this), .inl rfl, .snil, r, .refl ..⟩
            · rename_i hn0
              have hpos : 0 < n := Nat.pos_of_ne_zero (fun e => hn0 e)
              split
              · rename_i hfit
                have := fresh_ok k (a := a) (olds := []) (news := news) (cs := vs) (n := n) r hN hse (by simp [Builtin.firstCells]) (by simp) hsrcP (by omega) (by simpa using hfit) (by simpa using hrel)
                simpa using this
              · trivial
          · rename_i b off len cap z' loose
            split
            · trivial
            · rename_i hz
              have hz := beq_t hz
              subst hz
              split
              · trivial
              · rename_i hfit
                split
                · rename_i hroom
                  have hroom : len + n ≤ cap := ble_t hroom
                  split
                  · rename_i h' hp
                    intro _
                    generalize hse : a.eval s = se at hsr
                    cases hsr with | slice hb hss hl hc ht hn => ?_
                    rename_i cap' loc
                    have hp : putCells h b (off + len * z') vs = some h' := hp
                    obtain ⟨w', g1, g2, g3, _⟩ := putCells_ok (P := P) r hb (by omega) hrel hone hp
                    have e1 : off + len * z' - loc.s = off - loc.s + len * z' := by omega
                    rw [e1] at g1
                    exact ⟨μ, w', _, _, room_run k hse hsrcP (by omega) g1, .inl rfl, .slice hb hss hroom hc ht hn, g2, g3⟩
                  · trivial
                · rename_i hroom
                  have hroom : cap < len + n := ble_f hroom
                  split
                  · rename_i sz cs root hk
                    split
                    · -- certainly a new row
                      split
                      · rename_i old hold
                        generalize hse : a.eval s = se at hsr
                        cases hsr with | slice hb hss hl hc ht hn => ?_
                        rename_i cap' loc
                        have := ht rfl
                        subst this
                        have hold : getCells h b off (len * z') = some old := hold
                        obtain ⟨olds, q1, q2, q3, q4⟩ := getCells_ok (P := P) r hb hss hold
                        exact fresh_ok k r hN hse (q1 w.drew rfl) (by rw [q2.length]; exact q3) hsrcP hroom hfit (q2.append hrel)
                      · trivial
                    · exact loose_ok k r hN hsr hxr hk hsrc hone hfit
                  · trivial
          · trivial
        · trivial
      · trivial
    · trivial
  · trivial

theorem take_ones : ∀ {vs : List AV} (n : Nat), allOne vs = true → allOne (vs.take n) = true
  | _, 0, _ => rfl
  | [], _ + 1, _ => rfl
  | v :: vs, n + 1, h => by
    rw [List.take_succ_cons, allOne_cons]
    rw [allOne_cons] at h
    cases hv : v.one with
    | true => rw [hv] at h; exact take_ones n h
    | false => rw [hv] at h; cases h
theorem copyN_ok {o : Oper} {c : Call} {s x : Operand} {t e : TypeId} {size : Nat} (ho : o.op = .call c) (hc : c.callee = .builtin .copy) (ha : c.args = #[s, x]) (ht0 : c.argTypes[0]? = some t) (ht : P.underlying t = some (.slice e)) (hn : cSize P e = some size)
    {a : Act} {h : H} {w : World} (r : Rel E N μ h w) {b off len cap' n k : Nat} {loc : Loc} {vs : List AV} {vs' : List Value} (hb : μ b = some loc) (hs : loc.s ≤ off)
    (hsv : a.eval s = .slice (some ⟨loc.B, off - loc.s, none⟩) len cap') (hlen : ∀ w', (Builtin.lenOf (a.eval x)).run P w' = .ok k w') (hmin : Nat.min k len = n)
    (hcells : (Builtin.firstCells size n (a.eval x)).run P w = .ok vs'.toArray w) (hrel : LRel E μ vs vs') : LPost P E N μ h w a o (copyN n b off vs h) := by
  unfold copyN
  split
  · rename_i hone
    split
    · rename_i h' hp
      intro _
      obtain ⟨w', g1, g2, g3, _⟩ := putCells_ok (P := P) r hb hs hrel hone hp
      refine ⟨μ, w', _, _, builtin_value ho hc (s := Builtin.copy_ c.argTypes o.type #[a.eval s, a.eval x]) (by rw [ha]; simp [builtin]) (v := .int .i64 n) ?_, .inl rfl, .int _ _, g2, g3⟩
      rw [hsv]
      unfold Builtin.copy_
      simp [ht0, run_underlying ht, hlen, hmin, run_sizeOf hn, hcells, g1, goInt]
    · trivial
  · trivial
theorem srcN_ok {h : H} {w : World} (r : Rel E N μ h w) {size k n : Nat} {v : AV} {v' : Value} {vs : List AV} (hv : VRel E μ v v') (hk : lenA v = some n) (_hle : k ≤ n) (hs : srcN h size k v = some vs) :
    ∃ vs', LRel E μ vs vs' ∧ (Builtin.firstCells size k v').run P w = .ok vs'.toArray w := by
  unfold srcN at hs
  split at hs
  · cases hs; cases hv
    exact ⟨[], .nil, by simp [Builtin.firstCells]⟩
  · split at hs
    · rename_i hz
      have hz := beq_t hz
      subst hz
      cases hv with | slice hb hss hl hc ht hn => ?_
      obtain ⟨vs', h1, h2, h3, h4⟩ := getCells_ok (P := P) r hb hss hs
      exact ⟨vs', h2, h1 w rfl⟩
    · cases hs
  · rename_i l
    split at hs
    · rename_i hz
      have hz := beq_t hz
      subst hz
      cases hs
      cases hv with | str s => ?_
      refine ⟨_, strBytes_rel _, ?_⟩
      have : ((s.extract 0 k).data.map fun b => Value.int .u8 b.toNat) = ((s.data.toList.take k).map fun b => Value.int .u8 b.toNat).toArray := by
        apply Array.toList_inj.1
        rw [Array.toList_map, extract_data]
        simp
      show Result.ok ((s.extract 0 k).data.map fun b => Value.int .u8 b.toNat) w = _
      rw [this]
    · cases hs
  · cases hs
theorem lenA_ok {v : AV} {v' : Value} {n : Nat} (hv : VRel E μ v v') (h : lenA v = some n) (w : World) : (Builtin.lenOf v').run P w = .ok n w := by
  unfold lenA at h
  split at h
  · cases h; cases hv; rfl
  · cases h; cases hv; rfl
  · cases h
    cases hv with | str s => ?_
    show Result.ok s.size w = _
    simp
  · cases h
theorem copy_ok {o : Oper} {c : Call} {s x : Operand} {t e : TypeId} {size : Nat} (ho : o.op = .call c) (hc : c.callee = .builtin .copy) (ha : c.args = #[s, x]) (ht0 : c.argTypes[0]? = some t) (ht : P.underlying t = some (.slice e)) (hn : cSize P e = some size) :
    LoudOk P o (copyf size (cOpd s) (cOpd x)) := by
  intro E N μ ρ a h w hr r hN
  have hs := hr s (call_mem ho (by rw [ha]; simp))
  have hx := hr x (call_mem ho (by rw [ha]; simp))
  unfold copyf
  split
  · rename_i b off len cap z loose es
    have hsr := hs _ es
    generalize hse : a.eval s = se at hsr
    cases hsr with | slice hb hss hl hc' ht' hnn => ?_
    rename_i cap' loc
    split
    · split
      · rename_i xv ex
        have hxr := hx _ ex
        split
        · rename_i n hlen
          have key : ∀ k, k ≤ n → Nat.min n len = k → LPost P E N μ h w a o (copyM size k xv b off h) := by
            intro k hk hmin
            unfold copyM
            split
            · rename_i vs hvs
              obtain ⟨vs', g1, g2⟩ := srcN_ok (P := P) r hxr hlen hk hvs
              exact copyN_ok ho hc ha ht0 ht hn r hb hss hse (fun w' => lenA_ok hxr hlen w') hmin g2 g1
            · trivial
          split
          · rename_i hle
            have hle := ble_t hle
            exact key n (Nat.le_refl _) (Nat.min_eq_left hle)
          · rename_i hgt
            have hgt := ble_f hgt
            exact key len (by omega) (Nat.min_eq_right (by omega))
        · trivial
      · trivial
    · trivial
  · trivial
end Go.Ax
