/- Helper text: append. -/
import Derived.Test.YtdpebmcdjoadeaaGreatDoorAxOpI
namespace Go.Ax
variable {E : Env} {N : Nat} {μ μ' : Mu} {P : Program}

theorem append_types {ts : Array TypeId} {t u ty : TypeId} {args : Array Value} (h0 : ts[0]? = some t) (h1 : ts[1]? = some u) :
    Builtin.append_ ts ty args = Builtin.append_ #[t, u] ty args := by
  unfold Builtin.append_
  simp [h0, h1]
theorem one_eq (v : Value) : v.oneCell' = one v := by cases v <;> rfl
theorem fits_t {bytes need : Nat} (h : fits bytes need = true) : need * bytes ≤ 4294967296 ∧ need < 4294967296 := by
  unfold fits at h
  have h := blt_t h
  simp only [Nat.succ_eq_add_one, Nat.mul_eq] at h
  have h1 : need ≤ (bytes + 1) * (need + 1) := by
    rw [Nat.add_mul, Nat.one_mul]; omega
  refine ⟨?_, by omega⟩
  have h2 : need * bytes ≤ (bytes + 1) * (need + 1) := by
    rw [Nat.mul_comm need bytes]
    exact Nat.mul_le_mul (Nat.le_succ _) (Nat.le_succ _)
  omega

section
variable {o : Oper} {c : Call} {t u e : TypeId} {size bytes : Nat} {z : AV} {s x : Operand}
structure AppOk (P : Program) (o : Oper) (c : Call) (t u e : TypeId) (size bytes : Nat) (z : AV) (s x : Operand) : Prop where
  op : o.op = .call c
  callee : c.callee = .builtin .append
  args : c.args = #[s, x]
  t0 : c.argTypes[0]? = some t
  t1 : c.argTypes[1]? = some u
  ht : P.underlying t = some (.slice e)
  hu : (∃ e', P.underlying u = some (.slice e')) ∨ P.underlying u = some .string
  hsize : cSize P e = some size
  hbytes : cBytes P e = some bytes
  zero : cZero P e = some z
  zlen : z.cells.length = size
theorem AppOk.run (k : AppOk P o c t u e size bytes z s x) {a : Act} {w w' : World} {v : Value} (h : (Builtin.append_ #[t, u] o.type #[a.eval s, a.eval x]).run P w = .ok v w') :
    (execOp a.eval o).run P w = .ok (.value v) w' := by
  refine builtin_value k.op k.callee (s := Builtin.append_ c.argTypes o.type #[a.eval s, a.eval x]) (by rw [k.args]; simp [builtin]) ?_
  rw [append_types k.t0 k.t1]; exact h
theorem AppOk.info (k : AppOk P o c t u e size bytes z s x) : ∃ i zv, P.info? e = some i ∧ i.size = size ∧ i.bytes = bytes ∧ i.zero = some zv ∧ (∀ (E : Env) (μ : Mu), VRel E μ z zv) ∧ zv.cells.size = size := by
  obtain ⟨i, zv, h1, h2, h3⟩ := zero_info k.zero
  obtain ⟨zv', g1, g2⟩ := cZero_ok k.zero
  have : zv' = zv := by
    have e1 := g1 default
    rw [h3] at e1; cases e1; rfl
  subst this
  have hs := k.hsize
  have hb := k.hbytes
  unfold cSize at hs
  unfold cBytes at hb
  rw [h1] at hs hb
  simp at hs hb
  refine ⟨i, zv', h1, hs, hb, h2, g2, ?_⟩
  have := (g2 ⟨fun _ => .nilFunc, fun _ => rfl⟩ (fun _ => none)).cells.length
  simp only [Array.length_toList] at this
  rw [this]; exact k.zlen
/-- a new row: what was there, what comes, room behind -/
theorem grown_brel {cs : List AV} {vs : List Value} (h : LRel E μ cs vs) (zc : Array Value) (extra : Nat) (id : Nat) :
    BRel E μ 0 (vs.length + extra * zc.size) (rowBlk cs id) (.cells (vs.toArray ++ Builtin.zeroCells zc extra) e) := by
  have hsz : (vs.toArray ++ Builtin.zeroCells zc extra).size = vs.length + extra * zc.size := by simp [Builtin.zeroCells]
  have := row_brel (e := e) (fz := (0, 0)) (arr := vs.toArray ++ Builtin.zeroCells zc extra) h (by simp) (fun i hi => by
    rw [Array.getElem?_append_left (by simpa using hi)]; simp) (fun i _ => by simp) id
  rw [hsz] at this
  exact this
/-- the arm that grows, where the new block is one of its own -/
theorem fresh_ok (k : AppOk P o c t u e size bytes z s x) {a : Act} {h : H} {w : World} (r : Rel E N μ h w) (hN : N ≤ w.heap.size) {base : Option Addr} {sLen sCap n : Nat} {olds news : List Value} {cs : List AV}
    (hsv : a.eval s = .slice base sLen sCap) (hold : (Builtin.firstCells size sLen (.slice base sLen sCap)).run P w.drew = .ok olds.toArray w.drew) (holdl : olds.length = sLen * size)
    (hsrc : Src P size u (a.eval x) n news w) (hg : sCap < sLen + n) (hfit : fits bytes (sLen + n) = true) (hrel : LRel E μ cs (olds ++ news)) :
    LPost P E N μ h w a o (freshRow cs (sLen + n) size h) := by
  intro hfree
  obtain ⟨i, zv, h1, h2, h3, h4, h5, h6⟩ := k.info
  obtain ⟨f1, f2⟩ := fits_t hfit
  have hgs := growslice_fits (bytes := bytes) hg (by omega)
  have hrun := run_append_grow_src (P := P) w t u o.type e i zv k.ht h1 h4 base sLen sCap olds (by rw [h2]; exact hold) (a.eval x) n news (by rw [h2]; exact hsrc) hg (by omega) (by rw [h3]; exact hgs)
  have hcap := grownCap_ge w (sLen + n) sCap e
  have hnl := hsrc.newsLen
  have hfree' : Free μ h.next (h.next + 1) := hfree
  have hlen : (olds ++ news).length = (sLen + n) * size := by rw [List.length_append, holdl, hnl, Nat.add_mul]
  have hb := grown_brel (e := e) hrel zv.cells (grownCap w (sLen + n) sCap e - (sLen + n)) h.next
  rw [hlen, h6] at hb
  have hp : Pushed w (.cells ((olds ++ news).toArray ++ Builtin.zeroCells zv.cells (grownCap w (sLen + n) sCap e - (sLen + n))) e) (w.drew.alloc (.cells ((olds ++ news).toArray ++ Builtin.zeroCells zv.cells (grownCap w (sLen + n) sCap e - (sLen + n))) e)) := ⟨rfl, rfl, rfl, rfl⟩
  obtain ⟨g1, g2⟩ := newObj_ok r hfree' hN hb hp
  refine ⟨_, _, _, _, k.run (by rw [hsv]; exact hrun), .inl rfl, ?_, g1, g2⟩
  refine VRel.slice (x := ⟨w.heap.size, 0, (sLen + n) * size + (grownCap w (sLen + n) sCap e - (sLen + n)) * size⟩) (Mu.put_self ..) (Nat.le_refl _) (Nat.le_refl _) hcap (fun e => by cases e) ?_
  simp only [Nat.sub_zero, Nat.zero_add]
  rw [← Nat.add_mul]
  exact Nat.mul_le_mul_right _ (by omega)

/-- there is room: the cells are written behind the last element -/
theorem room_run (k : AppOk P o c t u e size bytes z s x) {a : Act} {w w' : World} {B off sLen sCap n : Nat} {news : List Value} (hsv : a.eval s = .slice (some ⟨B, off, none⟩) sLen sCap)
    (hsrc : Src P size u (a.eval x) n news w) (hroom : sLen + n ≤ sCap) (hst : (storeCells ⟨B, off + sLen * size, none⟩ news).run P w = .ok () w') :
    (execOp a.eval o).run P w = .ok (.value (.slice (some ⟨B, off, none⟩) (sLen + n) sCap)) w' := by
  refine k.run ?_
  obtain ⟨i, zv, h1, h2, h3, h4, h5, h6⟩ := k.info
  have hadd : Addr.add ⟨B, off, none⟩ (sLen * size) = ⟨B, off + sLen * size, none⟩ := add_addr ..
  rw [hsv]
  rcases k.hu with ⟨e', hk⟩ | hk <;> simp [Builtin.append_, run_underlying k.ht, run_underlying hk, run_sizeOf k.hsize, hsrc.len, hroom, hsrc.cells, hadd, hst]
theorem src_of (k : AppOk P o c t u e size bytes z s x) {h : H} {w : World} (r : Rel E N μ h w) {v : AV} {a : Act} {n : Nat} {vs : List AV} (hv : VRel E μ v (a.eval x)) (hs : srcCells h size v = some (n, vs)) (hone : allOne vs = true) :
    ∃ news, LRel E μ vs news ∧ Src P size u (a.eval x) n news w := by
  obtain ⟨news, h1, h2, h3, h4⟩ := srcCells_ok (P := P) r hv hs
  refine ⟨news, h1, k.hu, h4, h3 w rfl, h3 w.drew rfl, by rw [h1.length]; exact h2, fun q hq => ?_⟩
  rw [one_eq]; exact h1.ones hone q hq
theorem Src.drewD {size n : Nat} {tx : TypeId} {x : Value} {news : List Value} {w : World} (h : Src P size tx x n news w) : news.length = n * size := h.newsLen
/-- the loose append: the model may write in place or make a new row -/
theorem loose_ok (k : AppOk P o c t u e size bytes z s x) {a : Act} {h : H} {w : World} (r : Rel E N μ h w) (hN : N ≤ w.heap.size) {b off len cap n sz root : Nat} {cs : T AV} {vs : List AV} {v : AV}
    (hs : VRel E μ (.slice b off len cap size true) (a.eval s)) (hx : VRel E μ v (a.eval x)) (hk : T.get h.heap b = some (.cells sz cs root)) (hsrc : srcCells h size v = some (n, vs)) (hone : allOne vs = true)
    (hfit : fits bytes (len + n) = true) : LPost P E N μ h w a o (appendLoose b off len size n sz root cs vs h) := by
  unfold appendLoose
  split
  · rename_i hend
    have hend : off + len * size = sz := beq_t hend
    split
    · rename_i hm
      have hm := memB_t hm
      split
      · rename_i hroot
        have hroot := blt_t hroot
        intro hfree
        have hfree' : Free μ h.next (h.next + 1) := hfree
        have hnone : μ h.next = none := hfree'.next (Nat.lt_succ_self _)
        generalize hsv : a.eval s = sv at hs
        cases hs with | slice hb hss hl hc ht hn => ?_
        rename_i cap' loc
        obtain ⟨news, hrel, hsr⟩ := src_of k r hx hsrc hone
        obtain ⟨arr, ty, fz, hw, h1, h2, h3, h4⟩ := r.cells hb hk
        have hnl := hsr.newsLen
        have hvl : vs.length = n * size := by rw [← hrel.length]; exact hnl
        subst hend
        by_cases hroom : len + n ≤ cap'
        · -- in place
          have hbnd : (len + n) * size ≤ cap' * size := Nat.mul_le_mul_right _ hroom
          rw [Nat.add_mul] at hbnd
          obtain ⟨w', hrun, htr⟩ := run_storeCells (P := P) news w loc.B (off - loc.s + len * size) 0 arr ty fz hw (by omega) (by rw [h1]; exact h3) (hrel.ones hone)
          rw [Nat.add_zero] at htr
          have hopr := room_run k (w' := w') hsv hsr hroom hrun
          have hg := grow_ok (w' := w') (vs := vs) r (x := loc) (y := loc) hb hk hfree' hm hroot (.inl rfl) hN (Nat.le_of_eq htr.size.symm) (by rw [htr.size]; exact (r.own b loc hb).2)
            (fun B _ hne => htr.other B hne) ⟨_, htr.at_, _, ty, fz, rfl, by rw [writeArr_size]; exact h1, by omega, h3, fun p q hcell => ?_⟩
            (fun _ => ⟨arr, _, ty, fz, hw, htr.at_, writeArr_size .., fun i hi => by rw [writeArr_get _ _ _ _ (by omega), if_neg (by omega)]⟩) ⟨htr.os, htr.tape, htr.output⟩
          · refine ⟨_, w', _, _, hopr, .inl rfl, ?_, hg.1, hg.2⟩
            refine VRel.slice (x := loc) (Mu.put_self ..) hss (Nat.le_refl _) hroom (fun e => by cases e) hn
          · rcases ofList_get _ _ _ _ _ hcell.2.2 with ⟨a1, a2, a3⟩ | ⟨a1, a2⟩
            · obtain ⟨v', e1, e2⟩ := hrel.get? a3
              refine ⟨v', ?_, e2⟩
              rw [writeArr_get _ _ _ _ (by omega), if_pos (by omega), ← e1]
              congr 1; omega
            · have := hcell.1; have := hcell.2.1
              obtain ⟨v', e1, e2⟩ := h4 p q ⟨hcell.1, by omega, a2⟩
              refine ⟨v', ?_, e2⟩
              rw [writeArr_get _ _ _ _ (by omega), if_neg (by omega)]
              exact e1
        · -- a new row
          have hg' : cap' < len + n := by omega
          obtain ⟨i, zv, g1, g2, g3, g4, g5, g6⟩ := k.info
          obtain ⟨f1, f2⟩ := fits_t hfit
          have hgs := growslice_fits (bytes := bytes) hg' (by omega)
          have holdrun : ∀ w1 : World, w1.heap = w.heap → (Builtin.firstCells size len (.slice (some ⟨loc.B, off - loc.s, none⟩) len cap')).run P w1 = .ok ((arr.toList.drop (off - loc.s)).take (len * size)).toArray w1 := by
            intro w1 hw1
            exact run_loadCells (by rw [hw1]; exact hw) (by
              have : len * size ≤ cap' * size := Nat.mul_le_mul_right _ (by omega)
              omega)
          have hrun := run_append_grow_src (P := P) w t u o.type e i zv k.ht g1 g4 (some ⟨loc.B, off - loc.s, none⟩) len cap' ((arr.toList.drop (off - loc.s)).take (len * size)) (by rw [g2]; exact holdrun w.drew rfl)
            (a.eval x) n news (by rw [g2]; exact hsr) hg' (by omega) (by rw [g3]; exact hgs)
          have hcap := grownCap_ge w (len + n) cap' e
          have hol : ((arr.toList.drop (off - loc.s)).take (len * size)).length = len * size := by
            have : len * size ≤ cap' * size := Nat.mul_le_mul_right _ (by omega)
            simp; omega
          obtain ⟨arr2, harr2⟩ : ∃ q, q = (((arr.toList.drop (off - loc.s)).take (len * size)) ++ news).toArray ++ Builtin.zeroCells zv.cells (grownCap w (len + n) cap' e - (len + n)) := ⟨_, rfl⟩
          have hsz2 : arr2.size = (len + n) * size + (grownCap w (len + n) cap' e - (len + n)) * size := by
            rw [harr2]; simp only [Array.size_append, List.size_toArray, List.length_append, hol, hnl, Builtin.zeroCells, Array.size_map, Array.size_range, g6, Nat.add_mul]
          rw [← harr2] at hrun
          have hgw := grow_ok (w' := w.drew.alloc (.cells arr2 e)) (vs := vs) r (x := loc) (y := ⟨w.heap.size, off, arr2.size⟩) hb hk hfree' hm hroot (.inr rfl) hN (by show w.heap.size ≤ (w.heap.push _).size; simp) (by show w.heap.size < (w.heap.push _).size; simp)
            (fun B hB _ => by show (w.heap.push _)[B]? = _; rw [Array.getElem?_push, if_neg (by omega)])
            ⟨.cells arr2 e, by show (w.heap.push _)[w.heap.size]? = _; simp, arr2, e, (0, 0), rfl, rfl, by simp only; rw [hsz2, Nat.add_mul]; omega, fun i _ => by simp, fun p q hcell => ?_⟩
            (fun he => by have := (r.own b loc hb).2; rw [← he] at this; simp at this) ⟨rfl, rfl, rfl⟩
          · refine ⟨_, _, _, _, k.run (by rw [hsv]; exact hrun), .inl rfl, ?_, hgw.1, hgw.2⟩
            have := VRel.slice (E := E) (b := h.next) (o := off) (len := len + n) (cap := len + n) (z := size) (cap' := grownCap w (len + n) cap' e) (loose := true) (x := ⟨w.heap.size, off, arr2.size⟩) (Mu.put_self μ h.next _) (Nat.le_refl _) (Nat.le_refl _) hcap (fun e => by cases e) (by
              simp only [Nat.sub_self, Nat.zero_add]
              rw [hsz2, ← Nat.add_mul]
              exact Nat.mul_le_mul_right _ (by omega))
            simpa using this
          · have c1 := hcell.1; have c2 := hcell.2.1
            simp only at c1
            have hlow : ∀ j, j < len * size → arr2[j]? = arr[off - loc.s + j]? := by
              intro j hj
              rw [harr2, Array.getElem?_append_left (by simp only [List.size_toArray, List.length_append, hol]; omega)]
              simp only [List.getElem?_toArray]
              rw [List.getElem?_append_left (by omega), List.getElem?_take, if_pos hj, List.getElem?_drop, Array.getElem?_toList]
            have hmid : ∀ j, j < n * size → arr2[len * size + j]? = news[j]? := by
              intro j hj
              rw [harr2, Array.getElem?_append_left (by simp only [List.size_toArray, List.length_append, hol]; omega)]
              simp only [List.getElem?_toArray]
              rw [List.getElem?_append_right (by omega), hol]
              congr 1; omega
            rcases ofList_get _ _ _ _ _ hcell.2.2 with ⟨a1, a2, a3⟩ | ⟨a1, a2⟩
            · obtain ⟨v', e1, e2⟩ := hrel.get? a3
              refine ⟨v', ?_, e2⟩
              simp only
              rw [show p - off = len * size + (p - (off + len * size)) by omega, hmid _ (by omega)]
              exact e1
            · obtain ⟨v', e1, e2⟩ := h4 p q ⟨by omega, by omega, a2⟩
              refine ⟨v', ?_, e2⟩
              simp only
              rw [hlow _ (by omega), ← e1]
              congr 1; omega
      · trivial
    · trivial
  · trivial
end
end Go.Ax
