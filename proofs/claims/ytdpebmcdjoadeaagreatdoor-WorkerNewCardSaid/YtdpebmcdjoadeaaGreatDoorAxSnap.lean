/- Helper text: SNAPS: a call that was run once, with the memory that it met and the memory that it left, in place of the run. -/
import Derived.Test.YtdpebmcdjoadeaaGreatDoorAxDef
namespace Go.Ax

inductive RB where
  | row (sz root : Nat) (cs : List AV)
  | map (es : List (AV × AV × Nat)) (clock : Nat)
noncomputable def RB.blk : RB → Blk
  | .row sz root cs => .cells sz (T.ofList cs 0 .nil) root
  | .map es c => .map es c
structure Snap where
  f : FuncId
  args : List AV
  next : Nat
  ins : List (Nat × RB)
  sibs : List (Nat × List Nat)
  v : AV
  next' : Nat
  outs : List (Nat × RB)
  sibs' : List (Nat × List Nat)

noncomputable def setsB : List (Nat × RB) → T Blk → T Blk
  | [], t => t
  | (b, r) :: l, t => T.set r.blk (setsB l t) b
noncomputable def setsS : List (Nat × List Nat) → T (List Nat) → T (List Nat)
  | [], t => t
  | (b, r) :: l, t => T.set r (setsS l t) b
noncomputable def Snap.hin (s : Snap) : H := ⟨setsB s.ins .nil, s.next, setsS s.sibs .nil⟩
noncomputable def Snap.hout (s : Snap) : H := ⟨setsB s.outs .nil, s.next', setsS s.sibs' .nil⟩

/-- the cells from i on are those of the list -/
noncomputable def cellsLe : Nat → List AV → T AV → Bool
  | _, [], _ => true
  | i, v :: vs, t => match T.get t i with
    | some u => match eqAV 9 u v with
      | true => cellsLe (Nat.succ i) vs t
      | false => false
    | none => false
def entsEq : List (AV × AV × Nat) → List (AV × AV × Nat) → Bool
  | [], [] => true
  | (k, v, b) :: l, (k', v', b') :: l' => match eqAV 9 k k' with
    | true => match eqAV 9 v v' with
      | true => match Nat.beq b b' with
        | true => entsEq l l'
        | false => false
      | false => false
    | false => false
  | _, _ => false
noncomputable def blkLe (r : RB) (k : Blk) : Bool := match r with
  | .row sz root cs => match k with
    | .cells sz' cs' root' => match Nat.beq sz sz' with
      | true => match Nat.beq root root' with
        | true => cellsLe 0 cs cs'
        | false => false
      | false => false
    | _ => false
  | .map es c => match k with
    | .map es' c' => match Nat.beq c c' with
      | true => entsEq es' es
      | false => false
    | _ => false
def natsEq : List Nat → List Nat → Bool
  | [], [] => true
  | a :: l, b :: m => match Nat.beq a b with | true => natsEq l m | false => false
  | _, _ => false
def optEq : Option (List Nat) → Option (List Nat) → Bool
  | none, none => true
  | some l, some m => natsEq l m
  | _, _ => false
/-- is b one of the blocks? -/
def hasB (b : Nat) : List (Nat × RB) → Bool
  | [] => false
  | (c, _) :: l => match Nat.beq b c with | true => true | false => hasB b l
/-- what is on the list is among the blocks, or not known -/
noncomputable def closedL (ins : List (Nat × RB)) (t : T Blk) : List Nat → Bool
  | [] => true
  | c :: l => match hasB c ins with
    | true => closedL ins t l
    | false => match T.get t c with
      | none => closedL ins t l
      | some _ => false
noncomputable def rootOk (sib sib' : T (List Nat)) : RB → Bool
  | .row _ root _ => optEq (T.get sib root) (T.get sib' root)
  | .map _ _ => true
noncomputable def rootClosed (ins : List (Nat × RB)) (t : T Blk) (sib : T (List Nat)) : RB → Bool
  | .row _ root _ => match T.get sib root with
    | none => true
    | some l => closedL ins t l
  | .map _ _ => true
/-- the blocks are blocks of the memory -/
noncomputable def memLe (sib : T (List Nat)) (h : H) : List (Nat × RB) → Bool
  | [] => true
  | (b, r) :: l => match T.get h.heap b with
    | some k => match blkLe r k with
      | true => match rootOk sib h.sibs r with
        | true => memLe sib h l
        | false => false
      | false => false
    | none => false
noncomputable def memClosed (ins : List (Nat × RB)) (h : H) : List (Nat × RB) → Bool
  | [] => true
  | (_, r) :: l => match rootClosed ins h.heap h.sibs r with
    | true => memClosed ins h l
    | false => false
noncomputable def sibsClosed (ins : List (Nat × RB)) (h : H) : List (Nat × List Nat) → Bool
  | [] => true
  | (root, _) :: l => match T.get h.sibs root with
    | none => sibsClosed ins h l
    | some ls => match closedL ins h.heap ls with
      | true => sibsClosed ins h l
      | false => false
def keysIn (outs : List (Nat × RB)) : List (Nat × RB) → Bool
  | [] => true
  | (b, _) :: l => match hasB b outs with | true => keysIn outs l | false => false

/-- the snap is true -/
noncomputable def checkSnap (G : Cfg) (n : Nat) (s : Snap) : Bool := match keysIn s.outs s.ins with
  | false => false
  | true => match call G n s.f s.args s.hin with
    | .ok v h => match eqAV 9 v s.v with
      | true => match Nat.beq h.next s.next' with
        | true => memLe (setsS s.sibs' .nil) h s.outs
        | false => false
      | false => false
    | .err _ => false
/-- the snap in place of the call -/
noncomputable def useSnap (s : Snap) (args : List AV) (h : H) : Option H := match Nat.beq h.next s.next with
  | false => none
  | true => match listEq (eqAV 9) args s.args with
    | false => none
    | true => match memLe (setsS s.sibs .nil) h s.ins with
      | false => none
      | true => match memClosed s.ins h s.ins with
        | false => none
        | true => match sibsClosed s.ins h s.sibs' with
          | false => none
          | true => some ⟨setsB s.outs h.heap, s.next', setsS s.sibs' h.sibs⟩
noncomputable def useSnaps : List Snap → List AV → H → RV
  | [], _, _ => .err "no snap"
  | s :: l, args, h => match useSnap s args h with
    | some h' => .ok s.v h'
    | none => useSnaps l args h
end Go.Ax
