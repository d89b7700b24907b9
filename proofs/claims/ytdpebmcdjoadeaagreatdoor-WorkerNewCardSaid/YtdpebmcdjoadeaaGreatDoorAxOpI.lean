/- Helper text: the operations that write, first part: stores, copies. -/
import Derived.Test.YtdpebmcdjoadeaaGreatDoorAxOpH
import Derived.Deep.AppendSrc
import Derived.Deep.Upon
namespace Go.Ax
variable {E : Env} {N : Nat} {μ μ' : Mu} {P : Program}

/-- a function with a Go body -/
def HasBody (P : Program) (f : FuncId) : Prop := ∃ fn c, P.funcs[f]? = some fn ∧ fn.body = some c ∧ (fn.name == "runtime.NumGoroutine") = false
/-- what a writing operation or a call comes to -/
def LPost (P : Program) (E : Env) (N : Nat) (μ : Mu) (h : H) (w : World) (a : Act) (o : Oper) : LR → Prop
  | .ok v h' => Free μ h.next h'.next → ∃ μ' w' v' nx, (execOp a.eval o).run P w = .ok nx w' ∧ (nx = .value v' ∨ (nx = .skip ∧ v' = undef)) ∧ VRel E μ' v v' ∧ Rel E N μ' h' w' ∧ Ext μ h w μ' h' w'
  | .call g args => HasBody P g → ∃ args', (execOp a.eval o).run P w = .ok (.enter g args') w ∧ LRel E μ args args'.toList
  | .err _ => True
def LoudOk (P : Program) (o : Oper) (f : Tmps → H → LR) : Prop :=
  ∀ (E : Env) (N : Nat) (μ : Mu) (ρ : Tmps) (a : Act) (h : H) (w : World), (∀ x ∈ o.op.operands.toList, Related E μ ρ a x) → Rel E N μ h w → N ≤ w.heap.size → LPost P E N μ h w a o (f ρ h)

theorem run_skip {s : Sem Unit} {w w' : World} (h : s.run P w = .ok () w') : (do s; pure Next.skip : Sem Next).run P w = .ok .skip w' := by
  rw [bind_ok h]; rfl
theorem undef_rel : VRel E μ (.tuple []) undef := VRel.tuple (cs' := []) .nil
theorem put1_ok {o : Oper} {a : Act} {t : TypeId} {x y : Operand} {n : Nat} (ho : o.op = .store t x y) (hn : cSize P t = some n) {h : H} {w : World} (r : Rel E N μ h w) {b off : Nat} {loc : Loc} {vs : List AV}
    (hb : μ b = some loc) (hs : loc.s ≤ off) (hx : a.eval x = .pointer (some ⟨loc.B, off - loc.s, none⟩)) (hv : LRel E μ vs (a.eval y).cells.toList) (hlen : vs.length = n) :
    LPost P E N μ h w a o (put1 h b off vs) := by
  unfold put1
  split
  · rename_i hone
    split
    · rename_i h' hp
      intro _
      obtain ⟨w', h1, h2, h3, _⟩ := putCells_ok (P := P) r hb hs hv hone hp
      refine ⟨μ, w', undef, .skip, ?_, .inr ⟨rfl, rfl⟩, undef_rel, h2, h3⟩
      simp only [execOp, ho, hx]
      refine run_skip ?_
      unfold Instr.storeAt Instr.sureAddr
      simp only [pure_bind]
      unfold storeVar
      rw [bind_ok (run_sizeOf hn w)]
      have := hv.length
      simp only [Array.length_toList] at this
      rw [if_neg (by simp; omega)]
      exact h1
    · trivial
  · trivial
theorem store1_ok (o : Oper) (t : TypeId) (x y : Operand) (ho : o.op = .store t x y) (hn : cSize P t = some 1) : LoudOk P o (store1f (cOpd x) (cOpd y)) := by
  intro E N μ ρ a h w hr r _
  have hx := hr x (by rw [ho]; simp [Op.operands])
  have hy := hr y (by rw [ho]; simp [Op.operands])
  unfold store1f
  split
  · rename_i b off e
    split
    · rename_i v hv
      have hxv := hx _ e
      generalize hxe : a.eval x = xv at hxv
      cases hxv with | ptr hb hs => ?_
      have hyv := hy _ hv
      cases hone : v.one with
      | false =>
        have : put1 h b off [v] = .err "store" := by unfold put1; simp [allOne, hone]
        rw [this]; trivial
      | true =>
        refine put1_ok ho hn r hb hs hxe ?_ rfl
        have h1 := hyv.oneOf hone
        have : (a.eval y).cells = #[a.eval y] := by
          cases he : a.eval y <;> rw [he] at h1 <;> first | rfl | (simp [Go.Ax.one] at h1)
        rw [this]
        exact .cons hyv .nil
    · trivial
  · trivial
theorem storeN_ok (o : Oper) (t : TypeId) (x y : Operand) {n : Nat} (ho : o.op = .store t x y) (hn : cSize P t = some n) : LoudOk P o (storeNf n (cOpd x) (cOpd y)) := by
  intro E N μ ρ a h w hr r _
  have hx := hr x (by rw [ho]; simp [Op.operands])
  have hy := hr y (by rw [ho]; simp [Op.operands])
  unfold storeNf
  split
  · rename_i b off e
    split
    · rename_i vs hv
      split
      · rename_i hl
        have hl := beq_t hl
        have hxv := hx _ e
        generalize hxe : a.eval x = xv at hxv
        cases hxv with | ptr hb hs => ?_
        exact put1_ok ho hn r hb hs hxe (hy _ hv).cells hl
      · trivial
    · trivial
  · trivial

theorem Rel.heapEq {h : H} {w w' : World} (r : Rel E N μ h w) (e : w'.heap = w.heap) : Rel E N μ h w' :=
  ⟨fun b x hb => by rw [e]; exact r.own b x hb, fun b x k hb hk => by rw [e]; exact r.blk b x k hb hk, r.shares, r.maps, r.fresh⟩
theorem strBytes_length : ∀ (l : List UInt8), (strBytes l).length = l.length
  | [] => rfl
  | _ :: l => by simp [strBytes, strBytes_length l]
theorem byteCells_eq (s : ByteArray) : byteCells s = s.data.toList.map fun b => Value.int .u8 b.toNat := rfl
/-- what is appended or copied -/
theorem srcCells_ok {h : H} {w : World} (r : Rel E N μ h w) {size n : Nat} {v : AV} {v' : Value} {vs : List AV} (hv : VRel E μ v v') (hs : srcCells h size v = some (n, vs)) :
    ∃ vs', LRel E μ vs vs' ∧ vs.length = n * size ∧ (∀ w', w'.heap = w.heap → (Builtin.firstCells size n v').run P w' = .ok vs'.toArray w') ∧ (∀ w', (Builtin.lenOf v').run P w' = .ok n w') := by
  unfold srcCells at hs
  split at hs
  · cases hs; cases hv
    exact ⟨[], .nil, by simp, fun w' _ => by simp [Builtin.firstCells], fun _ => rfl⟩
  · rename_i b off len cap z loose
    split at hs
    · rename_i hz
      have hz := beq_t hz
      subst hz
      split at hs
      · rename_i vs0 hg
        cases hs
        cases hv with | slice hb hss hl hc ht hn => ?_
        obtain ⟨vs', h1, h2, h3, h4⟩ := getCells_ok (P := P) r hb hss hg
        exact ⟨vs', h2, h3, fun w' e => h1 w' e, fun _ => rfl⟩
      · cases hs
    · cases hs
  · rename_i l
    split at hs
    · rename_i hz
      have hz := beq_t hz
      subst hz
      cases hs
      cases hv with | str s => ?_
      refine ⟨byteCells s, strBytes_rel _, by rw [strBytes_length]; simp, fun w' _ => ?_, fun _ => by simp [Builtin.lenOf]⟩
      have := firstCells_string (P := P) s w'
      simpa using this
    · cases hs
  · cases hs
end Go.Ax
