/- Helper text: the number of the next block only grows. -/
import Derived.Test.YtdpebmcdjoadeaaGreatDoorAxOpM
namespace Go.Ax
variable {P : Program}

def LNext (h : H) : LR → Prop
  | .ok _ h' => h.next ≤ h'.next
  | _ => True
theorem LNext.err {h : H} {m : String} : LNext h (.err m) := trivial
theorem LNext.call {h : H} {f : FuncId} {as : List AV} : LNext h (.call f as) := trivial
theorem LNext.same {h : H} {v : AV} : LNext h (.ok v h) := Nat.le_refl _

theorem putIn_nx {h h' : H} {b o : Nat} {vs : List AV} (e : putIn h b o vs = some h') : h'.next = h.next := by
  unfold putIn at e
  split at e
  · cases e; rfl
  · cases e
theorem putCells_nx {h h' : H} {b o : Nat} {vs : List AV} (e : putCells h b o vs = some h') : h'.next = h.next := by
  unfold putCells at e
  split at e
  · cases e; rfl
  · split at e
    · split at e
      · rw [putIn_nx e, alone_next]
      · cases e
    · cases e
theorem put1_next (h : H) (b o : Nat) (vs : List AV) : LNext h (put1 h b o vs) := by
  unfold put1
  split
  · split
    · rename_i e; exact Nat.le_of_eq (putCells_nx e).symm
    · trivial
  · trivial
theorem copyN_next (n : Nat) (h : H) (b o : Nat) (vs : List AV) : LNext h (copyN n b o vs h) := by
  unfold copyN
  split
  · split
    · rename_i e; exact Nat.le_of_eq (putCells_nx e).symm
    · trivial
  · trivial
theorem copyM_next (size n : Nat) (x : AV) (h : H) (b o : Nat) : LNext h (copyM size n x b o h) := by
  unfold copyM
  split
  · exact copyN_next ..
  · trivial
theorem copyf_next (size : Nat) (s x : Opd) (ρ : Tmps) (h : H) : LNext h (copyf size s x ρ h) := by
  unfold copyf
  (repeat' split) <;> first | trivial | exact copyM_next ..
theorem store1_next (a x : Opd) (ρ : Tmps) (h : H) : LNext h (store1f a x ρ h) := by
  unfold store1f
  (repeat' split) <;> first | trivial | exact put1_next ..
theorem storeN_next (n : Nat) (a x : Opd) (ρ : Tmps) (h : H) : LNext h (storeNf n a x ρ h) := by
  unfold storeNf
  (repeat' split) <;> first | trivial | exact put1_next ..
theorem mapUpdate_next (n : KK) (m k v : Opd) (ρ : Tmps) (h : H) : LNext h (mapUpdatef n m k v ρ h) := by
  unfold mapUpdatef
  (repeat' split) <;> first | trivial | exact Nat.le_refl _
theorem freshRow_next (vs : List AV) (n size : Nat) (h : H) : LNext h (freshRow vs n size h) := by
  unfold freshRow
  exact Nat.le_succ _
theorem appendLoose_next (b o len z n sz root : Nat) (cs : T AV) (vs : List AV) (h : H) : LNext h (appendLoose b o len z n sz root cs vs h) := by
  unfold appendLoose
  (repeat' split) <;> first | trivial | exact Nat.le_succ _
theorem appendA_next (size bytes : Nat) (s : AV) (vs : List AV) (n : Nat) (h : H) : LNext h (appendA size bytes s vs n h) := by
  unfold appendA
  (repeat' split) <;> first | trivial | exact Nat.le_refl _ | exact freshRow_next .. | exact appendLoose_next .. | (rename_i e; exact Nat.le_of_eq (putCells_nx e).symm)
theorem append_next (size bytes : Nat) (s x : Opd) (ρ : Tmps) (h : H) : LNext h (appendf size bytes s x ρ h) := by
  unfold appendf
  (repeat' split) <;> first | trivial | exact appendA_next ..
theorem clear_next (z : List AV) (x : Opd) (ρ : Tmps) (h : H) : LNext h (clearf z x ρ h) := by
  unfold clearf
  (repeat' split) <;> first | trivial | exact Nat.le_refl _ | (rename_i e; exact Nat.le_of_eq (putCells_nx e).symm)
theorem clearM_next (x : Opd) (ρ : Tmps) (h : H) : LNext h (clearMf x ρ h) := by
  unfold clearMf
  (repeat' split) <;> first | trivial | exact Nat.le_refl _
theorem delete_next (n : KK) (m k : Opd) (ρ : Tmps) (h : H) : LNext h (deletef n m k ρ h) := by
  unfold deletef
  (repeat' split) <;> first | trivial | exact Nat.le_refl _
theorem callF_next (f : FuncId) (as : List Opd) (ρ : Tmps) (h : H) : LNext h (callFf f as ρ h) := by
  unfold callFf
  split <;> trivial
theorem callV_next (f : Opd) (as : List Opd) (ρ : Tmps) (h : H) : LNext h (callVf f as ρ h) := by
  unfold callVf
  (repeat' split) <;> trivial

def KNext : OpK → Prop
  | .loud f => ∀ ρ h, LNext h (f ρ h)
  | _ => True

theorem cAppend_next (t u : Option TypeId) (s x : Opd) : KNext (cAppend P t u s x) := by
  unfold cAppend
  (repeat' split) <;> first | trivial | exact fun ρ h => append_next ..
theorem cCopy_next (t : Option TypeId) (s x : Opd) : KNext (cCopy P t s x) := by
  unfold cCopy
  (repeat' split) <;> first | trivial | exact fun ρ h => copyf_next ..
theorem cClear_next (t : Option TypeId) (x : Opd) : KNext (cClear P t x) := by
  unfold cClear
  (repeat' split) <;> first | trivial | exact fun ρ h => clear_next .. | exact fun ρ h => clearM_next ..
theorem cDelete_next (t : Option TypeId) (m k : Opd) : KNext (cDelete P t m k) := by
  unfold cDelete
  (repeat' split) <;> first | trivial | exact fun ρ h => delete_next ..
theorem cLen_next (t : Option TypeId) (x : Opd) : KNext (cLen P t x) := by
  unfold cLen
  (repeat' split) <;> trivial
theorem cBuiltin_next (b : Builtin) (c : Call) : KNext (cBuiltin P b c) := by
  unfold cBuiltin
  (repeat' split) <;> first | trivial | exact cLen_next .. | exact cAppend_next .. | exact cCopy_next .. | exact cClear_next .. | exact cDelete_next ..
theorem cCall_next (c : Call) : KNext (cCall P c) := by
  unfold cCall
  (repeat' split) <;> first | trivial | exact cBuiltin_next .. | exact fun ρ h => callF_next .. | exact fun ρ h => callV_next ..
theorem cStore_next (t : TypeId) (a v : Opd) : KNext (cStore P t a v) := by
  unfold cStore
  (repeat' split) <;> first | trivial | exact fun ρ h => store1_next .. | exact fun ρ h => storeN_next ..
theorem cMapUpdate_next (t : TypeId) (m k v : Opd) : KNext (cMapUpdate P t m k v) := by
  unfold cMapUpdate
  (repeat' split) <;> first | trivial | exact fun ρ h => mapUpdate_next ..
theorem cOp_next (o : Op) : KNext (cOp P o) := by
  unfold cOp
  split
  all_goals first | trivial | exact cCall_next .. | exact cStore_next .. | exact cMapUpdate_next .. | skip
  all_goals first
    | (unfold cAlloc; (repeat' split) <;> trivial)
    | (unfold cBuild; (repeat' split) <;> trivial)
    | (unfold cBuildSlice; (repeat' split) <;> trivial)
    | (unfold cLoad; (repeat' split) <;> trivial)
    | (unfold cUn; (repeat' split) <;> trivial)
    | (unfold cConvert; (repeat' split) <;> trivial)
    | (unfold cMkIface; (repeat' split) <;> trivial)
    | (unfold cMkFunc; (repeat' split) <;> trivial)
    | (unfold cMkSlice; (repeat' split) <;> trivial)
    | (unfold cSlice; (repeat' split) <;> trivial)
    | (unfold cFieldAddr; (repeat' split) <;> trivial)
    | (unfold cField; (repeat' split) <;> trivial)
    | (unfold cIndexAddr; (repeat' split) <;> trivial)
    | (unfold cIndex; (repeat' split) <;> trivial)
    | (unfold cLookup; (repeat' split) <;> trivial)
    | (unfold cTypeAssert; (repeat' split) <;> trivial)
    | (unfold cBin; (repeat' split) <;> trivial)
    | skip
end Go.Ax
