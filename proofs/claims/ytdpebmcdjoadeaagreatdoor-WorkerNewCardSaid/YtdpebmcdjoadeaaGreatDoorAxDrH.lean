/- Helper text: regions that draw their order: joined. What the executor returns is what the model's call comes to. -/
import Derived.Test.YtdpebmcdjoadeaaGreatDoorAxDrG
import Derived.Below
namespace Go.Ax
variable {E : Env} {N : Nat} {μ0 μ μ' : Mu} {P : Program} {w0 : World}
variable {n : Nat} {ops : Array Oper} {l : List DOp} {mask : Nat → Nat} {cl : CallFn} {recs : List Rec} {vers : List H} {ρ : Nat → Tmps} {h : Nat → H} {v : Nat → AV}

section
variable {S : Nat → Bool} {m : Nat} {a : Act} {w : World} {i : Nat} {o : Oper}

theorem At.feas (A : At E N P n ops l mask cl recs vers ρ h v μ0 w0 S m μ a w i o) {d : DOp} (hd : l[i]? = some d) {q : Nat} (hq : q = m) (hne : m ≠ ownD l i) : d.feas[q]? = some true := by
  subst hq
  obtain ⟨d', h1, _, _, _, h2⟩ := A.c.plan.op i o A.hi
  rw [hd] at h1; cases h1
  refine h2 _ hne A.I.top fun j o' hj hl => ⟨fun hlt => ?_, fun hge => ?_⟩
  · have hS := (A.I.louds j o' hj hl).mpr hlt
    cases hb : bitOn (mask j) i with
    | false => rfl
    | true => exact (A.after j hS hb).elim
  · cases hb : bitOn (mask i) j with
    | false => rfl
    | true =>
      have := (A.I.louds j o' hj hl).mp (A.ready j hb)
      omega

theorem At.step (A : At E N P n ops l mask cl recs vers ρ h v μ0 w0 S m μ a w i o) {Q : Exit → Act → World → Prop} {K : Act → World → Prop} (hfree : Free μ0 (h 0).next (h l.length).next)
    (hK : ∀ m' μ' a' w', Inv E N P n ops l mask vers ρ h v μ0 w0 (also i S) m' μ' a' w' → K a' w') : wpOp P ops Q i K a w := by
  obtain ⟨d, d1, d2, d3, d4⟩ := A.dop
  have st := A.c.trace.step i d d1
  have hop := cOp_ok (P := P) o
  have hnx := cOp_next (P := P) o.op
  have hrel := A.related
  unfold wpOp
  rw [A.hi]
  simp only
  have hon : On d (ρ i) → Region.wanted o (yielded ops a.tmps) = true := by
    intro hon
    unfold On at hon
    cases hg : d.guard with
    | none => rw [hg] at d3; exact want_none d3
    | some x =>
      obtain ⟨p, q⟩ := x
      rw [hg] at hon d3
      exact A.wanted d3 hon
  generalize hvi : v i = vi at st
  generalize hhi : h (i + 1) = hi' at st
  cases st with
  | @skip p q hg hw =>
    rw [hg] at d3
    rw [A.wanted d3 hw, if_neg (by simp)]
    have hv : VRel E μ (v i) undef := by rw [hvi]; exact undef_rel
    cases hl : isLoud (cOp P o.op) with
    | false =>
      refine hK m μ _ w (A.same hl ?_ hv)
      rintro b k ⟨d', f, nb, g1, g2, _⟩
      rw [d1] at g1; cases g1
      unfold On at g2
      rw [hg] at g2
      simp only at g2
      rw [hw] at g2; cases g2
    | true =>
      have hh := A.here hl
      refine hK (m + 1) μ _ w (A.loud hl hfree hv ?_ ?_)
      · rw [hhi, ← hh]; exact A.I.rel
      · rw [hhi]; exact Ext.refl _ _ _
  | @pure f u on ho hf =>
    rw [hon on, if_pos rfl]
    rw [d4] at ho
    rw [ho] at hop
    have hl : isLoud (cOp P o.op) = false := by rw [ho]; rfl
    refine .inl (pure_wp hop hrel hf fun v' hv => hK m μ _ w (A.same hl ?_ (by rw [hvi]; exact hv)))
    rintro b k ⟨d', f', nb, g1, g2, g3, _⟩
    rw [d1] at g1; cases g1
    rw [d4, ho] at g3; cases g3
  | @read f u on ho hf =>
    rw [hon on, if_pos rfl]
    have ho' := ho
    rw [d4] at ho
    rw [ho] at hop
    have hl : isLoud (cOp P o.op) = false := by rw [ho]; rfl
    have hno : ∀ b k, ¬ NewAt l ρ h i b k := by
      rintro b k ⟨d', f', nb, g1, g2, g3, _⟩
      rw [d1] at g1; cases g1
      rw [ho'] at g3; cases g3
    by_cases hm : m = ownD l i
    · have hfr := A.I.fresh i (Nat.le_of_lt A.ilt) hm.symm
      obtain ⟨hsub, _⟩ := A.c.trace.down i (Nat.le_of_lt A.ilt) hfr
      rw [← hm] at hsub
      exact .inl (read_wp hop hrel (A.I.rel.sub hsub hfr) hf fun v' hv => hK m μ _ w (A.same hl hno (by rw [hvi]; exact hv)))
    · have hrec := A.c.trace.read i d f d1 on ho'
      have hchk := checkRecs_mem recs A.c.checks _ _ _ hrec
      have hver : vers[m]? = some (memV vers m) := by
        rcases Nat.lt_or_ge m (ownD l l.length) with hlt | hge
        · obtain ⟨j, dj, j1, j2, j3, j4⟩ := own_find (Nat.le_refl _) hlt
          have h1 := A.c.trace.ver j dj j2 j3
          have h2 := A.c.trace.verAt j2 j3
          rw [j4] at h1 h2
          rw [h1, h2]
        · have hmm : m = ownD l l.length := by have := A.I.top; omega
          have h1 := A.c.trace.last
          have h2 := A.c.trace.verEnd
          rw [← hmm] at h1 h2
          rw [h1, h2]
      have hq := readOk_t (checkAt_get _ _ _ _ hchk (A.feas d1 rfl hm) hver)
      exact .inl (read_wp hop hrel A.I.rel hq fun v' hv => hK m μ _ w (A.same hl hno hv))
  | @new f nb on ho hf =>
    rw [hon on, if_pos rfl]
    have ho' := ho
    rw [d4] at ho
    rw [ho] at hop
    have hl : isLoud (cOp P o.op) = false := by rw [ho]; rfl
    have hf1 : isFirst (cOp P o.op) = true := by rw [ho]; rfl
    have nw : NewAt l ρ h i (h i).next (nb.blk (h i).next) := ⟨d, f, nb, d1, on, ho', hf, rfl, rfl, hhi⟩
    refine .inl (new_wp hop hrel hf fun v' w' obj nn hp hb hv => hK m _ _ w' (A.make hl hf1 nw hp (hb _) fun μ' hle he => ?_))
    rw [hvi]
    exact hv μ' _ hle he
  | @loud f u h1 on ho hf =>
    rw [hon on, if_pos rfl]
    rw [d4] at ho
    rw [ho] at hop
    have hl : isLoud (cOp P o.op) = true := by rw [ho]; rfl
    have hh := A.here hl
    have hfr := A.free hl hfree
    rw [hhi] at hfr
    have hr : Rel E N μ (h i) w := by rw [← hh]; exact A.I.rel
    refine .inl (loud_wp A.c.calls hop hrel hr A.I.low hf hfr fun v' w' μ' hv r ex => hK (m + 1) μ' _ w' (A.loud hl hfree (by rw [hvi]; exact hv) (by rw [hhi]; exact r) (by rw [hhi]; exact ex)))
end

/-! any order -/
def todo (listed : Array Bool) : Nat → Nat
  | 0 => 0
  | k + 1 => todo listed k + (if listed.getD k false then 0 else 1)
theorem todo_zero {listed : Array Bool} : ∀ {k : Nat}, todo listed k = 0 → ∀ j, j < k → listed.getD j false = true
  | 0, _, j, h => by omega
  | k + 1, e, j, h => by
    unfold todo at e
    by_cases hj : j = k
    · subst hj
      cases hl : listed.getD j false with
      | true => rfl
      | false => rw [hl] at e; simp at e
    · exact todo_zero (k := k) (by omega) j (by omega)
theorem todo_set {listed : Array Bool} {i : Nat} (hi : i < listed.size) (hf : listed.getD i false = false) : ∀ k, i < k → todo (listed.setIfInBounds i true) k + 1 = todo listed k
  | 0, h => by omega
  | k + 1, h => by
    unfold todo
    by_cases hk : k = i
    · subst hk
      have hsame : ∀ j, j ≤ k → todo (listed.setIfInBounds k true) j = todo listed j := by
        intro j
        induction j with
        | zero => intro _; rfl
        | succ j ih =>
          intro hj
          unfold todo
          rw [ih (by omega), getD_set_ne false (by omega)]
      rw [hsame k (Nat.le_refl _), hf]
      have : (listed.setIfInBounds k true).getD k false = true := by simp [hi]
      rw [this]; simp
    · rw [getD_set_ne false (by omega)]
      have := todo_set hi hf k (by omega)
      omega

theorem any_ok (c : Ctx P n ops l mask cl recs vers ρ h v) (hfree : Free μ0 (h 0).next (h l.length).next) {Q : Exit → Act → World → Prop}
    (hQ : ∀ S m μ a w, (∀ j, j < ops.size → S j = true) → Inv E N P n ops l mask vers ρ h v μ0 w0 S m μ a w → Q .normal a w) :
    ∀ (fuel : Nat) (listed : Array Bool) (m : Nat) (μ : Mu) (a : Act) (w : World), listed.size = ops.size → todo listed ops.size ≤ fuel →
      Inv E N P n ops l mask vers ρ h v μ0 w0 (fun k => listed.getD k false) m μ a w → wpAny P .any ops Q fuel listed a w := by
  have hstart : ∀ listed : Array Bool, listed.size = ops.size → Region.ready .any ops listed = [] → ∀ j, j < ops.size → listed.getD j false = true := by
    intro listed hsz hr j
    induction j using Nat.strongRecOn with
    | _ j ih =>
      intro hj
      cases hl : listed.getD j false with
      | true => rfl
      | false =>
        exfalso
        have hmem : j ∈ Region.ready .any ops listed := by
          rw [mem_ready]
          refine ⟨?_, ops[j], Array.getElem?_eq_getElem hj, fun e he hb => ?_⟩
          · have : j < listed.size := by omega
            simp [this] at hl ⊢; exact hl
          · have hlt := c.plan.edges j _ (Array.getElem?_eq_getElem hj) e (Array.mem_def.mp he) hb
            exact ih e.on hlt (by omega)
        rw [hr] at hmem; cases hmem
  intro fuel
  induction fuel with
  | zero =>
    intro listed m μ a w hsz ht I
    have hall := todo_zero (Nat.le_zero.mp ht)
    refine ⟨?_, hQ _ _ _ _ _ hall I⟩
    cases hr : Region.ready .any ops listed with
    | nil => rfl
    | cons j js =>
      exfalso
      have hm : j ∈ Region.ready .any ops listed := by rw [hr]; exact List.mem_cons_self
      rw [mem_ready] at hm
      obtain ⟨h0, o, ho, _⟩ := hm
      have hj := (Array.getElem?_eq_some_iff.mp ho).1
      have := hall j hj
      have hj2 : j < listed.size := by omega
      simp [hj2] at h0 this
      rw [h0] at this; cases this
  | succ fuel ih =>
    intro listed m μ a w hsz ht I
    refine ⟨fun hr => hQ _ _ _ _ _ (hstart listed hsz hr) I, fun i hi => ?_⟩
    rw [mem_ready] at hi
    obtain ⟨h0, o, ho, hall⟩ := hi
    have hilt := (Array.getElem?_eq_some_iff.mp ho).1
    have hi2 : i < listed.size := by omega
    have hf : listed.getD i false = false := by simp [hi2] at h0 ⊢; exact h0
    have hsetS : (fun k => (listed.setIfInBounds i true).getD k false) = also i (fun k => listed.getD k false) := by
      funext k
      by_cases hk : k = i
      · subst hk; rw [also_self]; simp [hi2]
      · rw [also_ne hk, getD_set_ne false (Ne.symm hk)]
    refine At.step (m := m) (μ := μ) ⟨c, I, ho, hf, fun e he hb => hall e (Array.mem_def.mpr he) hb⟩ hfree fun m' μ' a' w' I' => ?_
    refine ih _ m' μ' a' w' (by simp [hsz]) (by have := todo_set hi2 hf ops.size hilt; omega) ?_
    rw [hsetS]; exact I'

theorem draw_ok (hmix : P.follows .mixedOrders = true) (n id : Nat) (ops : Array Oper) : COk P n (.region id ops true) (cDraw P n ops) := by
  intro cl hcl ρ0 h0 e ρ' h' ho
  unfold cDraw at ho
  split at ho
  · cases ho
  · rename_i ms hms
    split at ho
    · cases ho
    · rename_i hord
      split at ho
      · cases ho
      · rename_i l hl
        simp only [drawF] at ho
        split at ho
        · rename_i ρ1 h1 recs vers hd
          split at ho
          · rename_i hchk
            cases ho
            obtain ⟨ρs, hs, vs, t, e1, e2, e3, e4⟩ := trace_of l hd
            have c : Ctx P n ops l _ cl recs vers ρs hs vs := ⟨plan_of hms hord hl, t, hcl, hchk⟩
            have hmono := c.mono (Nat.zero_le l.length) (Nat.le_refl _)
            rw [e2, e4] at hmono
            refine ⟨hmono, fun E N μ a w Q s hfree hQ => wp_region_any hmix ?_⟩
            have hlen := c.plan.len
            have hfree' : Free μ (hs 0).next (hs l.length).next := by rw [e2, e4]; exact hfree
            have s0 : slotS ops vs (ρs 0) (fun k => (Array.replicate ops.size false).getD k false) l.length = fun t => T.getF 12 (ρs 0) t := by
              funext t
              rw [slot_after (i := 0) l.length (Nat.zero_le _) (fun j _ hj _ => by
                have : j < ops.size := by omega
                simp [this])]
              rfl
            have w0eq : ({ w with drawn := w.drawn + 1 } : World).heap = w.heap := rfl
            refine any_ok (E := E) (N := N) (μ0 := μ) (w0 := w) c hfree' (fun S m μ' a' w' hall I => ?_) ops.size _ 0 μ a _ (by simp) ?_ ?_
            · -- the end
              have hm : m = ownD l l.length := by
                rcases Nat.lt_or_ge m (ownD l l.length) with hlt | hge
                · exfalso
                  obtain ⟨j, dj, j1, j2, j3, j4⟩ := own_find (Nat.le_refl _) hlt
                  have hops : j < ops.size := by omega
                  have hg := Array.getElem?_eq_getElem hops
                  obtain ⟨d', k1, _, _, k2, _⟩ := c.plan.op j _ hg
                  rw [j2] at k1; cases k1
                  have := (I.louds j _ hg (by rw [← k2]; exact j3)).mp (hall j hops)
                  omega
                · have := I.top; omega
              have hV : memV vers m = hs l.length := by rw [hm]; exact t.verEnd
              have hrel := I.rel
              rw [hV, e4] at hrel
              refine hQ a' w' μ' ⟨⟨I.tsize, fun t' u hu => ?_⟩, I.defers, hrel, I.low⟩ ?_
              · refine I.slots t' u ?_
                rw [slot_before l.length (fun j hj _ => hall j (by omega)), ← slot_all c.plan t t' l.length (Nat.le_refl _), e3]
                exact hu
              · have hdom : ∀ b x, μ' b = some x → μ b = some x ∨ (h0.next ≤ b ∧ b < h'.next) := by
                  intro b x e
                  rcases I.dom b x e with g | ⟨g1, g2⟩ | ⟨j, k, g1, g2, g3⟩
                  · exact .inl g
                  · rw [hV, e4] at g2; rw [e2] at g1; exact .inr ⟨g1, g2⟩
                  · exfalso
                    have := ownD_mono (os := l) (Nat.le_of_lt g1.lt) (Nat.le_refl _)
                    omega
                exact {
                  le := I.le, free := hfree, dom := hdom
                  new := fun b x e e0 => by have := I.new b x e e0; rw [e2] at this; exact this
                  next := hmono
                  absent := fun b e hb => by
                    have := I.absent b (by rw [e2]; exact e) (by rw [hV, e2, e4]; exact hb)
                    rw [hV, e4] at this; exact this
                  kept := fun B hB hk => I.kept B hB (by rw [e2]; exact hk)
                  size := I.size, os := I.os, tape := I.tape, output := I.output }
            · -- the count
              have : ∀ k, todo (Array.replicate ops.size false) k ≤ k := by
                intro k
                induction k with
                | zero => exact Nat.le_refl _
                | succ k ih => unfold todo; split <;> omega
              exact this _
            · -- the beginning
              have hnone : ∀ k, (Array.replicate ops.size false).getD k false = false := by
                intro k
                by_cases hk : k < ops.size
                · simp [hk]
                · simp [hk]
              have hfr : Fresh (hs 0) := by rw [e2]; exact s.rel.fresh
              obtain ⟨hsub, hfV, hfs⟩ := t.down 0 (Nat.zero_le _) hfr
              rw [ownD_zero] at hsub hfV hfs
              -- the first version holds what was there and new blocks, which are not yet made
              have hup := fun b k => t.up b k 0 (Nat.zero_le _)
              rw [ownD_zero] at hup
              have hun : ∀ i b k, NewAt l ρs hs i b k → μ b = none := by
                intro i b k nw
                have h2 := c.mono (Nat.zero_le i) (Nat.le_of_lt nw.lt)
                have h3 := c.mono (i := i + 1) (j := l.length) nw.lt (Nat.le_refl _)
                have h4 : (hs (i + 1)).next = (hs i).next + 1 := by rw [nw.blk]; rfl
                have h5 := nw.id
                cases hb : μ b with
                | none => rfl
                | some x => have := hfree' b x hb; omega
              have hcase : ∀ b x k, μ b = some x → T.get (memV vers 0).heap b = some k → T.get h0.heap b = some k := by
                intro b x k e ek
                rcases hup b k ek with q | ⟨j, _, _, q⟩
                · rw [e2] at q; exact q
                · rw [hun j b k q] at e; cases e
              have hsib := t.sibs 0 (Nat.zero_le _)
              rw [ownD_zero, e2] at hsib
              have hsl : ∀ t' u, slotS ops vs (ρs 0) (fun k => (Array.replicate ops.size false).getD k false) l.length t' = some u → T.getF 12 ρ0 t' = some u := by
                intro t' u hu
                rw [s0] at hu
                rw [e1] at hu; exact hu
              exact {
                closed := fun i j hi => by simp only [hnone] at hi; cases hi
                louds := fun i o _ _ => ⟨fun hi => (by simp only [hnone] at hi; cases hi), fun hlt => (by omega)⟩
                top := Nat.zero_le _
                tsize := s.tmps.size
                slots := fun t' u hu => s.tmps.rel t' u (hsl t' u hu)
                defers := s.defers
                rel := {
                  own := s.rel.own
                  blk := fun b x k e ek => s.rel.blk b x k e (hcase b x k e ek)
                  shares := fun b b' x x' sz sz' cs cs' root root' hne e e' hB ek ek' => by
                    obtain ⟨q1, q2, ls, q3, q4⟩ := s.rel.shares b b' x x' sz sz' cs cs' root root' hne e e' hB (hcase _ _ _ e ek) (hcase _ _ _ e' ek')
                    exact ⟨q1, q2, ls, by rw [hsib]; exact q3, q4⟩
                  maps := fun b b' x x' es cl es' cl' e e' hB ek ek' => s.rel.maps b b' x x' es cl es' cl' e e' hB (hcase _ _ _ e ek) (hcase _ _ _ e' ek')
                  fresh := hfV }
                fresh := fun i hi hm => hfs i (Nat.zero_le _) hi hm
                low := s.low
                pend := fun i b k _ hi => by simp only [hnone] at hi; cases hi
                unmade := fun i b k nw _ => hun i b k nw
                dom := fun b x e => .inl e
                le := fun _ _ e => e
                new := fun b x e e0 => by rw [e] at e0; cases e0
                absent := fun b e hb => by
                  cases hk : T.get (memV vers 0).heap b with
                  | none => rfl
                  | some k =>
                    rcases hup b k hk with q | ⟨j, _, _, q⟩
                    · rw [e] at q; cases q
                    · have h2 := c.mono (Nat.zero_le j) (Nat.le_of_lt q.lt)
                      have h5 := q.id
                      rcases hb with hb | hb
                      · omega
                      · rw [hfV b hb] at hk; cases hk
                kept := fun B _ _ => rfl
                size := Nat.le_refl _
                os := rfl, tape := rfl, output := rfl }
          · cases ho
        · cases ho

/-- WHAT THE EXECUTOR RETURNS IS WHAT THE MODEL'S CALL COMES TO -/
theorem call_sound {G : Cfg} (hmix : P.follows .mixedOrders = true) (hG : CfgOk P G) {d f : Nat} {args : List AV} {h' : H} {u : AV}
    (hrun : call G d f args { heap := .nil, next := 0, sibs := .nil } = .ok u h') (E : Env) (args' : Array Value) (hargs : LRel E (fun _ => none) args args'.toList) (w : World) :
    Calls P f args' w fun e w' => ∃ u' μ', e = .returned u' ∧ VRel E μ' u u' ∧ Rel E w.heap.size μ' h' w' ∧ RowKit.Below w.heap.size w w' := by
  obtain ⟨_, _, hc⟩ := call_ok hG (fun n id ops => draw_ok hmix n id ops) d f args _ u h' hrun
  have r0 : Rel E w.heap.size (fun _ => none) { heap := .nil, next := 0, sibs := .nil } w :=
    { own := fun b x e => (by cases e), blk := fun b x k e => (by cases e), shares := fun b b' x x' sz sz' cs cs' r r' _ e => (by cases e), maps := fun b b' x x' es c es' c' e => (by cases e), fresh := fun b _ => T.get_nil b }
  refine Calls.mono (hc E w.heap.size (fun _ => none) args' w hargs r0 (Nat.le_refl _) (fun b x e => (by cases e))) fun e w' ⟨u', μ', q1, q2, q3, q4⟩ => ?_
  exact ⟨u', μ', q1, q2, q3, ⟨q4.os, q4.tape, q4.output, q4.size, fun k hk => q4.kept k hk (fun b x e => (by cases e))⟩⟩
end Go.Ax
