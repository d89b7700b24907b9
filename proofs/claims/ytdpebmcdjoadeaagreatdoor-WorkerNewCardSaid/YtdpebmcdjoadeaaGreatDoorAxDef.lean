/- Helper text: an abstract executor of the model's code: values in which memory blocks are numbered by the executor itself, operations as closures, code as closures. AxSound shows that what it computes is what the model's run comes to. -/
import Derived.Test.YtdpebmcdjoadeaaGreatDoorAxT
namespace Go.Ax

inductive AV where
  | bool (b : Bool)
  | int (k : IntKind) (n : Int)
  | str (s : List UInt8)
  | ptr (b o : Nat)
  | nilp
  /-- z: the cells of an element; loose: there may be more room than cap says -/
  | slice (b o len cap z : Nat) (loose : Bool)
  | snil
  | map (b : Nat)
  | mapnil
  | func (f : FuncId) (first captured : List AV)
  | nilf
  | iface (t : TypeId) (v : AV)
  | nili
  | agg (cs : List AV)
  | tuple (vs : List AV)
  | opq (i : Nat)
  deriving Inhabited

inductive Blk where
  | cells (size : Nat) (cs : T AV) (root : Nat)
  | map (es : List (AV × AV × Nat)) (clock : Nat)

structure H where
  heap : T Blk
  next : Nat
  sibs : T (List Nat)

abbrev Tmps := T AV
/-- a new block: what it is under a number, and the value that names it -/
structure NB where
  blk : Nat → Blk
  val : Nat → AV
inductive LR where
  | ok (v : AV) (h : H)
  | call (f : FuncId) (args : List AV)
  | err (m : String)
inductive RV where
  | ok (v : AV) (h : H)
  | err (m : String)
inductive RC where
  | normal (ρ : Tmps) (h : H)
  | exit (id : Nat) (ρ : Tmps) (h : H)
  | ret (ρ : Tmps) (h : H)
  | err (m : String)
structure Opd where
  f : Tmps → Option AV
inductive OpK where
  | pure (f : Tmps → Option AV)
  | read (f : Tmps → H → Option AV)
  | new (f : Tmps → Option NB)
  | loud (f : Tmps → H → LR)
  | bad (why : String)
abbrev CallFn := FuncId → List AV → H → RV
structure Clo where
  f : CallFn → Tmps → H → RC

noncomputable def tget (p : List Bool) (ρ : Tmps) : Option AV := T.getP p ρ
noncomputable def otmp (t : Nat) : Opd := ⟨fun ρ => T.getP (wayOf t) ρ⟩
def oconst (v : AV) : Opd := ⟨fun _ => some v⟩
def obad : Opd := ⟨fun _ => none⟩
noncomputable def evs (ρ : Tmps) : List Opd → Option (List AV)
  | [] => some []
  | x :: xs => match x.f ρ with
    | none => none
    | some v => match evs ρ xs with
      | none => none
      | some vs => some (v :: vs)

/-! ## memory -/
noncomputable def T.ofList (l : List AV) : Nat → T AV → T AV :=
  List.rec (motive := fun _ => Nat → T AV → T AV) (fun _ t => t) (fun v _ ih i t => ih (Nat.succ i) (T.set v t i)) l
noncomputable def T.slice (t : T AV) (o n : Nat) : Option (List AV) :=
  Nat.rec (motive := fun _ => Nat → Option (List AV)) (fun _ => some []) (fun _ ih o =>
    match T.get t o with
    | none => none
    | some v => match ih (Nat.succ o) with
      | none => none
      | some vs => some (v :: vs)) n o
noncomputable def rowBlk (cs : List AV) (id : Nat) : Blk := .cells cs.length (T.ofList cs 0 .nil) id
noncomputable def newObj (b : Blk) (h : H) : H := { heap := T.set b h.heap h.next, next := Nat.succ h.next, sibs := h.sibs }
noncomputable def setObj (b : Nat) (o : Blk) (h : H) : H := { heap := T.set o h.heap b, next := h.next, sibs := h.sibs }
noncomputable def getCells (h : H) (b o n : Nat) : Option (List AV) :=
  match T.get h.heap b with
  | some (.cells sz cs _) => match Nat.ble (Nat.add o n) sz with
    | true => T.slice cs o n
    | false => none
  | _ => none
noncomputable def getCell (h : H) (b o : Nat) : Option AV :=
  match T.get h.heap b with
  | some (.cells sz cs _) => match Nat.blt o sz with
    | true => T.get cs o
    | false => none
  | _ => none

/-- Strike the other blocks of the root that hold a cell at o or behind. -/
noncomputable def strike (b o : Nat) : List Nat → T Blk → T Blk
  | [], t => t
  | c :: cs, t => match Nat.beq c b with
    | true => strike b o cs t
    | false => match T.get t c with
      | some (.cells sz _ y) => match Nat.blt o sz with
        | true => strike b o cs (T.set (.cells 0 .nil y) t c)
        | false => strike b o cs t
      | _ => strike b o cs t
noncomputable def alone (b o root : Nat) (h : H) : H :=
  match T.get h.sibs root with
  | none => h
  | some l => { heap := strike b o l h.heap, next := h.next, sibs := h.sibs }
noncomputable def putIn (h : H) (b o : Nat) (vs : List AV) : Option H :=
  match T.get h.heap b with
  | some (.cells sz cs root) => some (setObj b (.cells sz (T.ofList vs o cs) root) h)
  | _ => none
noncomputable def putCells (h : H) (b o : Nat) (vs : List AV) : Option H :=
  match vs with
  | [] => some h
  | _ => match T.get h.heap b with
    | some (.cells sz _ root) => match Nat.ble (Nat.add o vs.length) sz with
      | true => putIn (alone b o root h) b o vs
      | false => none
    | _ => none

/-! ## numbers, strings -/
def leB : Int → Int → Bool
  | .ofNat m, .ofNat n => Nat.ble m n
  | .negSucc m, .negSucc n => Nat.ble n m
  | .negSucc _, .ofNat _ => true
  | .ofNat _, .negSucc _ => false
def eqB : Int → Int → Bool
  | .ofNat m, .ofNat n => Nat.beq m n
  | .negSucc m, .negSucc n => Nat.beq n m
  | _, _ => false
def ltB (a b : Int) : Bool := match leB b a with | true => false | false => true
def topOf (k : IntKind) : Nat := match k with
  | .i8 => 128 | .i16 => 32768 | .i32 => 2147483648 | .i64 => 9223372036854775808 | .u8 => 256 | .u16 => 65536 | .u32 => 4294967296 | .u64 => 18446744073709551616
def botOf (k : IntKind) : Nat := match k with
  | .i8 => 128 | .i16 => 32768 | .i32 => 2147483648 | .i64 => 9223372036854775808 | _ => 0
/-- the number, wrapped: the common cases without a division -/
def wrapF (k : IntKind) (n : Int) : Int :=
  match n with
  | .ofNat m => match Nat.blt m (topOf k) with
    | true => .ofNat m
    | false => k.wrap n
  | .negSucc m => match Nat.blt m (botOf k) with
    | true => .negSucc m
    | false => k.wrap n
def bytesEq : List UInt8 → List UInt8 → Bool
  | [], [] => true
  | a :: x, b :: y => match Nat.beq a.toNat b.toNat with | true => bytesEq x y | false => false
  | _, _ => false
def bytesLt : List UInt8 → List UInt8 → Bool
  | _, [] => false
  | [], _ :: _ => true
  | a :: x, b :: y => match Nat.blt a.toNat b.toNat with
    | true => true
    | false => match Nat.beq a.toNat b.toNat with | true => bytesLt x y | false => false
def kindEq : IntKind → IntKind → Bool
  | .i8, .i8 | .i16, .i16 | .i32, .i32 | .i64, .i64 | .u8, .u8 | .u16, .u16 | .u32, .u32 | .u64, .u64 => true
  | _, _ => false
def boolEq : Bool → Bool → Bool
  | true, true | false, false => true
  | _, _ => false
def listEq (f : AV → AV → Bool) : List AV → List AV → Bool
  | [], [] => true
  | a :: as, b :: bs => match f a b with | true => listEq f as bs | false => false
  | _, _ => false
/-- one and the same value -/
def eqAV : Nat → AV → AV → Bool
  | 0, _, _ => false
  | d + 1, x, y => match x, y with
    | .bool a, .bool b => boolEq a b
    | .int j a, .int k b => match kindEq j k with | true => eqB a b | false => false
    | .str a, .str b => bytesEq a b
    | .ptr a b, .ptr c e => match Nat.beq a c with | true => Nat.beq b e | false => false
    | .nilp, .nilp | .snil, .snil | .mapnil, .mapnil | .nilf, .nilf | .nili, .nili => true
    | .slice b o l c z q, .slice b' o' l' c' z' q' => match Nat.beq b b' with
      | true => match Nat.beq o o' with
        | true => match Nat.beq l l' with
          | true => match Nat.beq c c' with
            | true => match Nat.beq z z' with
              | true => boolEq q q'
              | false => false
            | false => false
          | false => false
        | false => false
      | false => false
    | .map a, .map b => Nat.beq a b
    | .func f a c, .func g b e => match Nat.beq f g with
      | true => match listEq (eqAV d) a b with | true => listEq (eqAV d) c e | false => false
      | false => false
    | .iface t a, .iface u b => match Nat.beq t u with | true => eqAV d a b | false => false
    | .agg a, .agg b => listEq (eqAV d) a b
    | .tuple a, .tuple b => listEq (eqAV d) a b
    | .opq a, .opq b => Nat.beq a b
    | _, _ => false
/-! ## the operations -/
def AV.cells : AV → List AV
  | .agg cs => cs
  | v => [v]
/-- a value that one cell can bear -/
def AV.one : AV → Bool
  | .agg _ | .tuple _ => false
  | _ => true
def allOne : List AV → Bool
  | [] => true
  | v :: vs => match v.one with | true => allOne vs | false => false
def movef (x : Opd) : Tmps → Option AV := fun ρ => x.f ρ
def pickf (c a b : Opd) : Tmps → Option AV := fun ρ => match c.f ρ with
  | some (.bool true) => a.f ρ
  | some (.bool false) => b.f ρ
  | _ => none
noncomputable def rowNB (cs : List AV) : NB := ⟨rowBlk cs, fun id => .ptr id 0⟩
noncomputable def slcNB (cs : List AV) (len cap z : Nat) (loose : Bool) : NB := ⟨rowBlk cs, fun id => .slice id 0 len cap z loose⟩
noncomputable def allocf (z : List AV) : Tmps → Option NB := fun _ => some (rowNB z)
noncomputable def boxf (x : Opd) : Tmps → Option NB := fun ρ => match x.f ρ with | some v => some (rowNB v.cells) | none => none
def fillL : Nat → List AV → List AV → List AV
  | 0, vs, cs => vs ++ cs.drop vs.length
  | n + 1, vs, cs => match cs with
    | [] => []
    | c :: cs => c :: fillL n vs cs
def fills (ρ : Tmps) : List (Nat × Nat × Opd) → List AV → Option (List AV)
  | [], cs => some cs
  | (off, sz, x) :: ps, cs => match x.f ρ with
    | none => none
    | some v => match Nat.beq v.cells.length sz with
      | true => match Nat.ble (Nat.add off sz) cs.length with
        | true => fills ρ ps (fillL off v.cells cs)
        | false => none
      | false => none
def buildf (z : List AV) (ps : List (Nat × Nat × Opd)) : Tmps → Option AV := fun ρ => match fills ρ ps z with
  | some cs => some (.agg cs)
  | none => none
noncomputable def buildSlicef (z : List AV) (len sz : Nat) (ps : List (Nat × Nat × Opd)) : Tmps → Option NB := fun ρ => match fills ρ ps z with
  | some cs => some (slcNB cs len len sz false)
  | none => none
noncomputable def load1f (a : Opd) : Tmps → H → Option AV := fun ρ h => match a.f ρ with
  | some (.ptr b o) => getCell h b o
  | _ => none
noncomputable def loadNf (n : Nat) (a : Opd) : Tmps → H → Option AV := fun ρ h => match a.f ρ with
  | some (.ptr b o) => match getCells h b o n with
    | some vs => some (.agg vs)
    | none => none
  | _ => none
noncomputable def put1 (h : H) (b o : Nat) (vs : List AV) : LR := match allOne vs with
  | true => match putCells h b o vs with
    | some h => .ok (.tuple []) h
    | none => .err "store"
  | false => .err "store"
noncomputable def store1f (a x : Opd) : Tmps → H → LR := fun ρ h => match a.f ρ with
  | some (.ptr b o) => match x.f ρ with
    | some v => put1 h b o [v]
    | none => .err "store1"
  | _ => .err "store1"
noncomputable def storeNf (n : Nat) (a x : Opd) : Tmps → H → LR := fun ρ h => match a.f ρ with
  | some (.ptr b o) => match x.f ρ with
    | some (.agg vs) => match Nat.beq vs.length n with
      | true => put1 h b o vs
      | false => .err "storeN"
    | _ => .err "storeN"
  | _ => .err "storeN"
def nilCheckf (x : Opd) : Tmps → Option AV := fun ρ => match x.f ρ with
  | some (.ptr b o) => some (.ptr b o)
  | some (.func fn a c) => some (.func fn a c)
  | _ => none
def add2 : AV → AV → Option AV
  | .int k a, .int j b => match kindEq k j with | true => some (.int k (wrapF k (Int.add a b))) | false => none
  | .str a, .str b => match Nat.blt (Nat.add a.length b.length) 4294967296 with | true => some (.str (a ++ b)) | false => none
  | _, _ => none
def int2 (f : IntKind → Int → Int → Option AV) : AV → AV → Option AV
  | .int k a, .int j b => match kindEq k j with | true => f k a b | false => none
  | _, _ => none
def subI (k : IntKind) (a b : Int) : Option AV := some (.int k (wrapF k (Int.sub a b)))
def mulI (k : IntKind) (a b : Int) : Option AV := some (.int k (wrapF k (Int.mul a b)))
def quoI (k : IntKind) (a b : Int) : Option AV := match eqB b 0 with | true => none | false => some (.int k (wrapF k (a.tdiv b)))
def remI (k : IntKind) (a b : Int) : Option AV := match eqB b 0 with | true => none | false => some (.int k (a.tmod b))
def lss2 : AV → AV → Option AV
  | .int k a, .int j b => match kindEq k j with | true => some (.bool (ltB a b)) | false => none
  | .str a, .str b => some (.bool (bytesLt a b))
  | _, _ => none
def leq2 : AV → AV → Option AV
  | .int k a, .int j b => match kindEq k j with | true => some (.bool (leB a b)) | false => none
  | .str a, .str b => some (.bool (match bytesLt b a with | true => false | false => true))
  | _, _ => none
def gtr2 (x y : AV) : Option AV := lss2 y x
def geq2 (x y : AV) : Option AV := leq2 y x
def bitsI (op : BinOp) (k : IntKind) (a b : Int) : Option AV := match op with
    | .and => some (.int k (wrapF k (.ofNat ((BitVec.ofInt k.bits a) &&& (BitVec.ofInt k.bits b)).toNat)))
    | .or => some (.int k (wrapF k (.ofNat ((BitVec.ofInt k.bits a) ||| (BitVec.ofInt k.bits b)).toNat)))
    | .xor => some (.int k (wrapF k (.ofNat ((BitVec.ofInt k.bits a) ^^^ (BitVec.ofInt k.bits b)).toNat)))
    | .andNot => some (.int k (wrapF k (.ofNat ((BitVec.ofInt k.bits a) &&& ~~~(BitVec.ofInt k.bits b)).toNat)))
    | _ => none
def shl2 : AV → AV → Option AV
  | .int k a, .int _ (.ofNat b) => some (.int k (wrapF k (Int.mul a (.ofNat (2 ^ (min b k.bits))))))
  | _, _ => none
def shr2 : AV → AV → Option AV
  | .int k a, .int _ (.ofNat b) => some (.int k (a.fdiv (.ofNat (2 ^ (min b k.bits)))))
  | _, _ => none
def binf (f : AV → AV → Option AV) (x y : Opd) : Tmps → Option AV := fun ρ => match x.f ρ with
  | some a => match y.f ρ with
    | some b => f a b
    | none => none
  | none => none
/-- '==' by the type -/
def eqInt : AV → AV → Option Bool
  | .int k a, .int j b => match kindEq k j with | true => some (eqB a b) | false => none
  | _, _ => none
def eqStr : AV → AV → Option Bool
  | .str a, .str b => some (bytesEq a b)
  | _, _ => none
def eqBool : AV → AV → Option Bool
  | .bool a, .bool b => some (boolEq a b)
  | _, _ => none
def eqPtr : AV → AV → Option Bool
  | .nilp, .nilp => some true
  | .nilp, .ptr .. => some false
  | .ptr .., .nilp => some false
  | _, _ => none
def eqSlc : AV → AV → Option Bool
  | .snil, .snil => some true
  | .snil, .slice .. => some false
  | .slice .., .snil => some false
  | _, _ => none
def eqMap : AV → AV → Option Bool
  | .mapnil, .mapnil => some true
  | .mapnil, .map .. => some false
  | .map .., .mapnil => some false
  | _, _ => none
def eqFun : AV → AV → Option Bool
  | .nilf, .nilf => some true
  | .nilf, .func .. => some false
  | .func .., .nilf => some false
  | _, _ => none
def eqIfc : AV → AV → Option Bool
  | .nili, .nili => some true
  | .nili, .iface .. => some false
  | .iface .., .nili => some false
  | _, _ => none
def eqOf (neg : Bool) (f : AV → AV → Option Bool) (x y : AV) : Option AV := match f x y with
  | some b => some (.bool (match neg with | true => (match b with | true => false | false => true) | false => b))
  | none => none
def notf (x : Opd) : Tmps → Option AV := fun ρ => match x.f ρ with
  | some (.bool b) => some (.bool (match b with | true => false | false => true))
  | _ => none
def negf (x : Opd) : Tmps → Option AV := fun ρ => match x.f ρ with
  | some (.int k n) => some (.int k (wrapF k (Int.sub 0 n)))
  | _ => none
def toIntf (k : IntKind) (x : Opd) : Tmps → Option AV := fun ρ => match x.f ρ with
  | some (.int _ n) => some (.int k (wrapF k n))
  | _ => none
def samef (x : Opd) : Tmps → Option AV := fun ρ => match x.f ρ with
  | some (.str s) => some (.str s)
  | _ => none
def intToStrf (x : Opd) : Tmps → Option AV := fun ρ => match x.f ρ with
  | some (.int _ n) => some (.str (Utf8.encode n).data.toList)
  | _ => none
def strBytes : List UInt8 → List AV
  | [] => []
  | b :: s => .int .u8 (.ofNat b.toNat) :: strBytes s
def bytesOf : List AV → Option (List UInt8)
  | [] => some []
  | .int .u8 n :: vs => match bytesOf vs with | some l => some (UInt8.ofNat n.toNat :: l) | none => none
  | _ => none
noncomputable def strToBytesf (x : Opd) : Tmps → Option NB := fun ρ => match x.f ρ with
  | some (.str s) => some (slcNB (strBytes s) s.length s.length 1 true)
  | _ => none
noncomputable def bytesToStrf (x : Opd) : Tmps → H → Option AV := fun ρ h => match x.f ρ with
  | some .snil => some (.str [])
  | some (.slice b o len _ z _) => match Nat.beq z 1 with
    | true => match getCells h b o len with
      | some vs => match bytesOf vs with | some s => some (.str s) | none => none
      | none => none
    | false => none
  | _ => none
def mkIfacef (t : TypeId) (x : Opd) : Tmps → Option AV := fun ρ => match x.f ρ with | some v => some (.iface t v) | none => none
noncomputable def mkFuncf (f : FuncId) (a c : List Opd) : Tmps → Option AV := fun ρ => match evs ρ a with
  | some a => match evs ρ c with
    | some c => some (.func f a c)
    | none => none
  | none => none
def mapNB : NB := ⟨fun _ => .map [] 0, fun id => .map id⟩
def mkMapf : Tmps → Option NB := fun _ => some mapNB
def natOf : Option AV → Option Nat
  | some (.int _ (.ofNat n)) => some n
  | _ => none
def repl : Nat → List AV → List AV
  | 0, _ => []
  | n + 1, z => z ++ repl n z
noncomputable def mkSlicef (z : List AV) (bytes : Nat) (l c : Opd) : Tmps → Option NB := fun ρ => match natOf (l.f ρ) with
  | some l => match natOf (c.f ρ) with
    | some c => match Nat.ble l c with
      | true => match Nat.blt (Nat.mul (Nat.succ bytes) c) 4294967296 with
        | true => some (slcNB (repl c z) l c z.length false)
        | false => none
      | false => none
    | none => none
  | none => none
def optN (ρ : Tmps) (d : Nat) : Option Opd → Option Nat
  | none => some d
  | some x => natOf (x.f ρ)
def sliceStrf (x : Opd) (lo hi : Option Opd) : Tmps → Option AV := fun ρ => match x.f ρ with
  | some (.str s) => match optN ρ 0 lo with
    | some l => match optN ρ s.length hi with
      | some r => match Nat.ble l r with
        | true => match Nat.ble r s.length with
          | true => some (.str ((s.drop l).take (Nat.sub r l)))
          | false => none
        | false => none
      | none => none
    | none => none
  | _ => none
def sliceOf (b o cap z : Nat) (loose : Bool) (l r m : Nat) : Option AV :=
  match Nat.ble l r with
  | true => match Nat.ble r m with
    | true => match Nat.ble m cap with
      | true => some (.slice b (match Nat.beq m l with | true => o | false => Nat.add o (Nat.mul l z)) (Nat.sub r l) (Nat.sub m l) z loose)
      | false => none
    | false => none
  | false => none
/-- x[lo:hi]: of a slice with unknown room the end's address is not known -/
def sliceSlf (size : Nat) (x : Opd) (lo hi mx : Option Opd) : Tmps → Option AV := fun ρ => match x.f ρ with
  | some .snil => match optN ρ 0 lo with
    | some 0 => match optN ρ 0 hi with
      | some 0 => match optN ρ 0 mx with
        | some 0 => some .snil
        | _ => none
      | _ => none
    | _ => none
  | some (.slice b o len cap z loose) => match Nat.beq z size with
    | true => match optN ρ 0 lo with
      | some l => match optN ρ len hi with
        | some r => match mx with
          | none => match loose with
            | false => sliceOf b o cap z false l r cap
            | true => match Nat.ble l r with
              | true => match Nat.ble r cap with
                | true => match Nat.beq l 0 with
                  | true => some (.slice b o r cap z true)
                  | false => match Nat.blt l cap with
                    | true => some (.slice b (Nat.add o (Nat.mul l z)) (Nat.sub r l) (Nat.sub cap l) z true)
                    | false => none
                | false => none
              | false => none
          | some mo => match natOf (mo.f ρ) with
            | some m => sliceOf b o cap z false l r m
            | none => none
        | none => none
      | none => none
    | false => none
  | _ => none
def fieldAddrf (off : Nat) (x : Opd) : Tmps → Option AV := fun ρ => match x.f ρ with
  | some (.ptr b o) => some (.ptr b (Nat.add o off))
  | _ => none
def nth : List AV → Nat → Option AV
  | [], _ => none
  | v :: vs, n => match n with
    | 0 => some v
    | n + 1 => nth vs n
def field1f (off : Nat) (x : Opd) : Tmps → Option AV := fun ρ => match x.f ρ with
  | some (.agg cs) => nth cs off
  | _ => none
def fieldNf (off size : Nat) (x : Opd) : Tmps → Option AV := fun ρ => match x.f ρ with
  | some (.agg cs) => some (.agg ((cs.drop off).take size))
  | _ => none
def at_ (b o len z i : Nat) : Option AV := match Nat.blt i len with
  | true => some (.ptr b (Nat.add o (Nat.mul i z)))
  | false => none
def indexAddrf (size : Nat) (x i : Opd) : Tmps → Option AV := fun ρ => match x.f ρ with
  | some (.slice b o len _ z _) => match Nat.beq z size with
    | true => match natOf (i.f ρ) with
      | some i => at_ b o len z i
      | none => none
    | false => none
  | _ => none
def indexArrf (size len : Nat) (x i : Opd) : Tmps → Option AV := fun ρ => match x.f ρ with
  | some (.ptr b o) => match natOf (i.f ρ) with
    | some i => at_ b o len size i
    | none => none
  | _ => none
def nthB : List UInt8 → Nat → Option AV
  | [], _ => none
  | v :: vs, n => match n with
    | 0 => some (.int .u8 (.ofNat v.toNat))
    | n + 1 => nthB vs n
def indexStrf (x i : Opd) : Tmps → Option AV := fun ρ => match x.f ρ with
  | some (.str s) => match natOf (i.f ρ) with
    | some i => nthB s i
    | none => none
  | _ => none
/-- keys: of the kinds that maps have here -/
inductive KK where
  | int
  | str
  | flds (l : List Bool)
def keysEq : List Bool → List AV → List AV → Option Bool
  | [], [], [] => some true
  | [], _, _ => none
  | true :: l, a :: as, b :: bs => match eqInt a b with
    | some true => keysEq l as bs
    | some false => some false
    | none => none
  | false :: l, a :: as, b :: bs => match eqStr a b with
    | some true => keysEq l as bs
    | some false => some false
    | none => none
  | _ :: _, _, _ => none
def keyEq : KK → AV → AV → Option Bool
  | .int, a, b => eqInt a b
  | .str, a, b => eqStr a b
  | .flds l, .agg a, .agg b => keysEq l a b
  | .flds _, _, _ => none
def keyFits : KK → AV → Bool
  | .int, _ => true
  | .str, _ => true
  | .flds l, .agg cs => Nat.beq l.length cs.length
  | .flds _, _ => false
def findE (n : KK) (k : AV) : List (AV × AV × Nat) → Nat → Option (Option (Nat × AV))
  | [], _ => some none
  | (k', v, _) :: es, i => match keyEq n k k' with
    | some true => some (some (i, v))
    | some false => findE n k es (Nat.succ i)
    | none => none
def updE (k v : AV) : Nat → List (AV × AV × Nat) → List (AV × AV × Nat)
  | _, [] => []
  | 0, (_, _, b) :: es => (k, v, b) :: es
  | j + 1, e :: es => e :: updE k v j es
noncomputable def getMap (h : H) (b : Nat) : Option (List (AV × AV × Nat) × Nat) :=
  match T.get h.heap b with | some (.map es c) => some (es, c) | _ => none
def lookupIn (n : KK) (z : AV) (ok : Bool) (es : List (AV × AV × Nat)) (k : AV) : Option AV :=
  match findE n k es 0 with
  | some (some (_, v)) => some (match ok with | true => .tuple [v, .bool true] | false => v)
  | some none => some (match ok with | true => .tuple [z, .bool false] | false => z)
  | none => none

noncomputable def lookupf (n : KK) (z : AV) (ok : Bool) (x i : Opd) : Tmps → H → Option AV := fun ρ h => match x.f ρ with
  | some (.map b) => match i.f ρ with
    | some k => match keyFits n k with
      | true => match getMap h b with
        | some (es, _) => lookupIn n z ok es k
        | none => none
      | false => none
    | none => none
  | _ => none
noncomputable def mapUpdatef (n : KK) (m k v : Opd) : Tmps → H → LR := fun ρ h => match m.f ρ with
  | some (.map b) => match k.f ρ with
    | some k => match v.f ρ with
      | some v => match keyFits n k with
        | true => match getMap h b with
          | some (es, c) => match findE n k es 0 with
            | some (some (j, _)) => .ok (.tuple []) (setObj b (.map (updE k v j es) c) h)
            | some none => .ok (.tuple []) (setObj b (.map (es ++ [(k, v, c)]) (Nat.succ c)) h)
            | none => .err "mapUpdate"
          | none => .err "mapUpdate"
        | false => .err "mapUpdate"
      | none => .err "mapUpdate"
    | none => .err "mapUpdate"
  | _ => .err "mapUpdate"
def typeAssertf (x : Opd) (t : TypeId) (z : AV) (ok : Bool) : Tmps → Option AV := fun ρ => match x.f ρ with
  | some (.iface u v) => match Nat.beq u t with
    | true => some (match ok with | true => .tuple [v, .bool true] | false => v)
    | false => match ok with | true => some (.tuple [z, .bool false]) | false => none
  | some .nili => match ok with | true => some (.tuple [z, .bool false]) | false => none
  | _ => none
def extractf (x : Opd) (i : Nat) : Tmps → Option AV := fun ρ => match x.f ρ with
  | some (.tuple vs) => nth vs i
  | _ => none
def lenStrf (x : Opd) : Tmps → Option AV := fun ρ => match x.f ρ with
  | some (.str s) => some (.int .i64 (.ofNat s.length))
  | _ => none
def lenSlcf (x : Opd) : Tmps → Option AV := fun ρ => match x.f ρ with
  | some (.slice _ _ n _ _ _) => some (.int .i64 (.ofNat n))
  | some .snil => some (.int .i64 0)
  | _ => none
noncomputable def lenMapf (x : Opd) : Tmps → H → Option AV := fun ρ h => match x.f ρ with
  | some .mapnil => some (.int .i64 0)
  | some (.map b) => match getMap h b with
    | some (es, _) => some (.int .i64 (.ofNat es.length))
    | none => none
  | _ => none
def max2 : AV → AV → Option AV
  | .int k a, .int j b => match kindEq k j with | true => some (.int k (match ltB a b with | true => b | false => a)) | false => none
  | _, _ => none
def min2 : AV → AV → Option AV
  | .int k a, .int j b => match kindEq k j with | true => some (.int k (match ltB b a with | true => b | false => a)) | false => none
  | _, _ => none
def foldO (f : AV → AV → Option AV) : AV → List AV → Option AV
  | a, [] => some a
  | a, x :: xs => match f a x with
    | some b => foldO f b xs
    | none => none
noncomputable def foldf (f : AV → AV → Option AV) (xs : List Opd) : Tmps → Option AV := fun ρ => match evs ρ xs with
  | some (x :: xs) => foldO f x xs
  | _ => none
/-- what is appended or copied: how many elements, and their cells -/
noncomputable def srcCells (h : H) (size : Nat) : AV → Option (Nat × List AV)
  | .snil => some (0, [])
  | .slice b o len _ z _ => match Nat.beq z size with
    | true => match getCells h b o (Nat.mul len size) with | some vs => some (len, vs) | none => none
    | false => none
  | .str s => match Nat.beq size 1 with
    | true => some (s.length, strBytes s)
    | false => none
  | _ => none
def memB (t : Nat) : List Nat → Bool
  | [] => false
  | u :: us => match Nat.beq t u with | true => true | false => memB t us
def sibsOf (b : Nat) : Option (List Nat) → List Nat
  | some l => l
  | none => [b]
/-- append where it is not known whether the array has room behind what is known: e: the place behind the last element -/
noncomputable def growLoose (b e root : Nat) (cs : T AV) (vs : List AV) (h : H) : H :=
  { heap := T.set (.cells (Nat.add e vs.length) (T.ofList vs e cs) root) (strike h.next e (sibsOf b (T.get h.sibs root)) h.heap) h.next,
    next := Nat.succ h.next, sibs := T.set (h.next :: sibsOf b (T.get h.sibs root)) h.sibs root }
def fits (bytes need : Nat) : Bool := Nat.blt (Nat.mul (Nat.succ bytes) (Nat.succ need)) 4294967296
noncomputable def freshRow (cs : List AV) (n size : Nat) (h : H) : LR := .ok (.slice h.next 0 n n size true) (newObj (rowBlk cs h.next) h)
noncomputable def appendLoose (b o len z n sz root : Nat) (cs : T AV) (vs : List AV) (h : H) : LR :=
  match Nat.beq (Nat.add o (Nat.mul len z)) sz with
  | true => match memB b (sibsOf b (T.get h.sibs root)) with
    | true => match Nat.blt root 4294967296 with
      | true => .ok (.slice h.next o (Nat.add len n) (Nat.add len n) z true) (growLoose b (Nat.add o (Nat.mul len z)) root cs vs h)
      | false => .err "append: root"
    | false => .err "append: list"
  | false => .err "append: not at the end"
noncomputable def appendA (size bytes : Nat) (s : AV) (vs : List AV) (n : Nat) (h : H) : LR :=
  match s with
  | .snil => match n with
    | 0 => .ok .snil h
    | _ => match fits bytes n with
      | true => freshRow vs n size h
      | false => .err "append: bounds"
  | .slice b o len cap z loose => match Nat.beq z size with
    | false => .err "append: size"
    | true => match fits bytes (Nat.add len n) with
      | false => .err "append: bounds"
      | true => match Nat.ble (Nat.add len n) cap with
        | true => match putCells h b (Nat.add o (Nat.mul len z)) vs with
          | some h => .ok (.slice b o (Nat.add len n) cap z loose) h
          | none => .err "append"
        | false => match T.get h.heap b with
          | some (.cells sz cs root) => match loose with
            | false => match getCells h b o (Nat.mul len z) with
              | some old => freshRow (old ++ vs) (Nat.add len n) z h
              | none => .err "append"
            | true => appendLoose b o len z n sz root cs vs h
          | _ => .err "append"
  | _ => .err "append"
noncomputable def appendf (size bytes : Nat) (s x : Opd) : Tmps → H → LR := fun ρ h => match s.f ρ with
  | some s => match x.f ρ with
    | some x => match srcCells h size x with
      | some (n, vs) => match allOne vs with
        | true => appendA size bytes s vs n h
        | false => .err "append"
      | none => .err "append"
    | none => .err "append"
  | none => .err "append"
noncomputable def copyN (n b o : Nat) (vs : List AV) (h : H) : LR := match allOne vs with
  | true => match putCells h b o vs with
    | some h => .ok (.int .i64 (.ofNat n)) h
    | none => .err "copy"
  | false => .err "copy"
/-- the first k elements of a source of n elements, k at most n -/
noncomputable def srcN (h : H) (size k : Nat) : AV → Option (List AV)
  | .snil => some []
  | .slice b o _ _ z _ => match Nat.beq z size with
    | true => getCells h b o (Nat.mul k size)
    | false => none
  | .str s => match Nat.beq size 1 with
    | true => some (strBytes (s.take k))
    | false => none
  | _ => none
def lenA : AV → Option Nat
  | .snil => some 0
  | .slice _ _ len _ _ _ => some len
  | .str s => some s.length
  | _ => none
noncomputable def copyM (size k : Nat) (x : AV) (b o : Nat) (h : H) : LR := match srcN h size k x with
  | some vs => copyN k b o vs h
  | none => .err "copy"
noncomputable def copyf (size : Nat) (s x : Opd) : Tmps → H → LR := fun ρ h => match s.f ρ with
  | some (.slice b o len _ z _) => match Nat.beq z size with
    | true => match x.f ρ with
      | some x => match lenA x with
        | some n => match Nat.ble n len with
          | true => copyM size n x b o h
          | false => copyM size len x b o h
        | none => .err "copy"
      | none => .err "copy"
    | false => .err "copy"
  | _ => .err "copy"
noncomputable def clearf (z : List AV) (x : Opd) : Tmps → H → LR := fun ρ h => match x.f ρ with
  | some .snil => .ok (.tuple []) h
  | some (.slice b o len _ zz _) => match Nat.beq zz z.length with
    | true => match allOne z with
      | true => match putCells h b o (repl len z) with
        | some h => .ok (.tuple []) h
        | none => .err "clear"
      | false => .err "clear"
    | false => .err "clear"
  | _ => .err "clear"
noncomputable def clearMf (x : Opd) : Tmps → H → LR := fun ρ h => match x.f ρ with
  | some .mapnil => .ok (.tuple []) h
  | some (.map b) => match getMap h b with
    | some (_, c) => .ok (.tuple []) (setObj b (.map [] c) h)
    | none => .err "clear"
  | _ => .err "clear"
def delE : Nat → List (AV × AV × Nat) → List (AV × AV × Nat)
  | _, [] => []
  | 0, _ :: es => es
  | i + 1, e :: es => e :: delE i es
noncomputable def deletef (n : KK) (m k : Opd) : Tmps → H → LR := fun ρ h => match k.f ρ with
  | some k => match keyFits n k with
    | true => match m.f ρ with
      | some .mapnil => .ok (.tuple []) h
      | some (.map b) => match getMap h b with
        | some (es, c) => match findE n k es 0 with
          | some (some (j, _)) => .ok (.tuple []) (setObj b (.map (delE j es) c) h)
          | some none => .ok (.tuple []) (setObj b (.map es c) h)
          | none => .err "delete"
        | none => .err "delete"
      | _ => .err "delete"
    | false => .err "delete"
  | none => .err "delete"
noncomputable def callFf (f : FuncId) (args : List Opd) : Tmps → H → LR := fun ρ _ => match evs ρ args with | some vs => .call f vs | none => .err "call"
noncomputable def callVf (f : Opd) (args : List Opd) : Tmps → H → LR := fun ρ _ => match f.f ρ with
  | some (.func f a c) => match evs ρ args with
    | some vs => .call f (a ++ vs ++ c)
    | none => .err "call"
  | _ => .err "call of a value"

/-! ## the code -/
noncomputable def put (d : Option (List Bool)) (v : AV) (ρ : Tmps) : Tmps :=
  Option.rec (motive := fun _ => Tmps) ρ (fun p => T.setP v p ρ) d
def endF : Clo := ⟨fun _ ρ h => .normal ρ h⟩
noncomputable def badF (why : String) : Clo := ⟨fun _ _ _ => .err why⟩
noncomputable def consPure (d : Option (List Bool)) (f : Tmps → Option AV) (rest : Clo) : Clo := ⟨fun cl ρ h =>
  Option.rec (motive := fun _ => RC) (.err "pure") (fun v => rest.f cl (put d v ρ) h) (f ρ)⟩
noncomputable def consRead (d : Option (List Bool)) (f : Tmps → H → Option AV) (rest : Clo) : Clo := ⟨fun cl ρ h =>
  Option.rec (motive := fun _ => RC) (.err "read") (fun v => rest.f cl (put d v ρ) h) (f ρ h)⟩
noncomputable def consNew (d : Option (List Bool)) (f : Tmps → Option NB) (rest : Clo) : Clo := ⟨fun cl ρ h =>
  Option.rec (motive := fun _ => RC) (.err "new") (fun nb => rest.f cl (put d (nb.val h.next) ρ) (newObj (nb.blk h.next) h)) (f ρ)⟩
noncomputable def runLoud (f : Tmps → H → LR) (cl : CallFn) (ρ : Tmps) (h : H) : RV := match f ρ h with
  | .ok v h => .ok v h
  | .call f args => cl f args h
  | .err m => .err m
noncomputable def consLoud (d : Option (List Bool)) (f : Tmps → H → LR) (rest : Clo) : Clo := ⟨fun cl ρ h =>
  match runLoud f cl ρ h with
  | .ok v h => rest.f cl (put d v ρ) h
  | .err m => .err m⟩
noncomputable def consK (d : Option (List Bool)) (o : OpK) (rest : Clo) : Clo := match o with
  | .pure f => consPure d f rest
  | .read f => consRead d f rest
  | .new f => consNew d f rest
  | .loud f => consLoud d f rest
  | .bad why => badF why
/-- is the guarded operation run? none: not known -/
noncomputable def wantA (ρ : Tmps) (p : List Bool) (w : Bool) : Option Bool :=
  match T.getP p ρ with
  | some (.bool b) => some (boolEq b w)
  | some (.tuple []) => some false
  | _ => none
noncomputable def guardF (p : List Bool) (w : Bool) (d : Option (List Bool)) (o : Clo) (rest : Clo) : Clo := ⟨fun cl ρ h =>
  match wantA ρ p w with
  | some true => o.f cl ρ h
  | some false => rest.f cl (put d (.tuple []) ρ) h
  | none => .err "guard"⟩
def skipF : Clo := ⟨fun _ ρ h => .normal ρ h⟩
noncomputable def seqF (a b : Clo) : Clo := ⟨fun cl ρ h =>
  RC.rec (motive := fun _ => RC) (fun ρ h => b.f cl ρ h) (fun id ρ h => .exit id ρ h) (fun ρ h => .ret ρ h) (fun m => .err m) (a.f cl ρ h)⟩
noncomputable def condF (c : Opd) (a b : Clo) : Clo := ⟨fun cl ρ h => match c.f ρ with
  | some (.bool t) => Bool.rec (motive := fun _ => RC) (b.f cl ρ h) (a.f cl ρ h) t
  | _ => .err "cond"⟩
noncomputable def blockF (id : Nat) (b : Clo) : Clo := ⟨fun cl ρ h =>
  RC.rec (motive := fun _ => RC) (fun ρ h => .normal ρ h) (fun j ρ h => Bool.rec (motive := fun _ => RC) (.exit j ρ h) (.normal ρ h) (Nat.beq j id)) (fun ρ h => .ret ρ h) (fun m => .err m) (b.f cl ρ h)⟩
noncomputable def iter (b : Clo) (cl : CallFn) (n : Nat) : Tmps → H → RC :=
  Nat.rec (motive := fun _ => Tmps → H → RC) (fun _ _ => .err "fuel") (fun _ ih ρ h =>
    RC.rec (motive := fun _ => RC) (fun ρ h => ih ρ h) (fun id ρ h => .exit id ρ h) (fun ρ h => .ret ρ h) (fun m => .err m) (b.f cl ρ h)) n
noncomputable def loopF (b : Clo) : Clo := ⟨fun cl ρ h => iter b cl (nat_lit 100000) ρ h⟩
def exitF (id : Nat) : Clo := ⟨fun _ ρ h => .exit id ρ h⟩
def retF : Clo := ⟨fun _ ρ h => .ret ρ h⟩

/-! a region that draws its order: run in the order of the text; what reads or makes memory must come to the same wherever it may stand among the loud operations -/
structure DOp where
  dst : Option (List Bool)
  op : OpK
  guard : Option (List Bool × Bool)
  feas : List Bool
inductive Rec where
  | read (f : H → Option AV) (v : AV) (feas : List Bool)
inductive DR where
  | ok (ρ : Tmps) (h : H) (recs : List Rec) (vers : List H)
  | err (m : String)
def DR.rec1 (r : Rec) (d : DR) : DR := match d with
  | .ok ρ h recs vers => .ok ρ h (r :: recs) vers
  | .err m => .err m
def DR.ver1 (h0 : H) (d : DR) : DR := match d with
  | .ok ρ h recs vers => .ok ρ h recs (h0 :: vers)
  | .err m => .err m
noncomputable def drawOp (o : DOp) (go : Tmps → H → DR) (cl : CallFn) (ρ : Tmps) (h : H) : DR := match o.op with
  | .pure f => match f ρ with
    | some v => go (put o.dst v ρ) h
    | none => .err "pure"
  | .read f => match f ρ h with
    | some v => (go (put o.dst v ρ) h).rec1 (.read (fun h => f ρ h) v o.feas)
    | none => .err "read"
  | .new f => match f ρ with
    | some nb => go (put o.dst (nb.val h.next) ρ) (newObj (nb.blk h.next) h)
    | none => .err "new"
  | .loud f => match runLoud f cl ρ h with
    | .ok v h' => (go (put o.dst v ρ) h').ver1 h
    | .err m => .err m
  | .bad why => .err why
noncomputable def drawGo (cl : CallFn) : List DOp → Tmps → H → DR
  | [], ρ, h => .ok ρ h [] [h]
  | o :: os, ρ, h => match o.guard with
    | none => drawOp o (drawGo cl os) cl ρ h
    | some (p, w) => match wantA ρ p w with
      | some true => drawOp o (drawGo cl os) cl ρ h
      | some false => match o.op with
        | .loud _ => (drawGo cl os (put o.dst (.tuple []) ρ) h).ver1 h
        | _ => drawGo cl os (put o.dst (.tuple []) ρ) h
      | none => .err "guard"
def checkAt (q : H → Bool) : List Bool → List H → Bool
  | [], _ => true
  | true :: fs, h :: hs => match q h with | true => checkAt q fs hs | false => false
  | false :: fs, _ :: hs => checkAt q fs hs
  | _ :: _, [] => true
noncomputable def readOk (f : H → Option AV) (v : AV) (h : H) : Bool := match f h with
  | some u => eqAV 9 u v
  | none => false
noncomputable def checkRecs (vers : List H) : List Rec → Bool
  | [] => true
  | .read f v fs :: rs => match checkAt (readOk f v) fs vers with | true => checkRecs vers rs | false => false
noncomputable def drawF (ops : List DOp) : Clo := ⟨fun cl ρ h => match drawGo cl ops ρ h with
  | .ok ρ h recs vers => match checkRecs vers recs with
    | true => .normal ρ h
    | false => .err "order"
  | .err m => .err m⟩

inductive ARes where
  | tmp (p : List Bool)
  | cell1 (p : List Bool)
  | cellN (n : Nat) (p : List Bool)
  | bad
noncomputable def result1 (ρ : Tmps) (h : H) : ARes → Option AV
  | .tmp p => T.getP p ρ
  | .cell1 p => match T.getP p ρ with
    | some (.ptr b o) => getCell h b o
    | _ => none
  | .cellN n p => match T.getP p ρ with
    | some (.ptr b o) => match getCells h b o n with | some vs => some (.agg vs) | none => none
    | _ => none
  | .bad => none
noncomputable def resultsL (ρ : Tmps) (h : H) : List ARes → Option (List AV)
  | [] => some []
  | r :: rs => match result1 ρ h r with
    | none => none
    | some v => match resultsL ρ h rs with
      | none => none
      | some vs => some (v :: vs)
noncomputable def resultA (rs : List ARes) (ρ : Tmps) (h : H) : RV :=
  match resultsL ρ h rs with
  | some [v] => .ok v h
  | some vs => .ok (.tuple vs) h
  | none => .err "result"

structure AF where
  body : Clo
  results : List ARes
noncomputable def retOf (rs : List ARes) (r : RC) : RV := match r with
  | .normal ρ h => resultA rs ρ h
  | .ret ρ h => resultA rs ρ h
  | .exit .. => .err "exit"
  | .err m => .err m
noncomputable def runF (af : AF) (cl : CallFn) (args : List AV) (h : H) : RV := retOf af.results (af.body.f cl (T.ofList args 0 .nil) h)
structure Cfg where
  fn : Nat → Option AF
  prim : Nat → Option (List AV → H → RV)
noncomputable def call (G : Cfg) (n : Nat) : FuncId → List AV → H → RV :=
  Nat.rec (motive := fun _ => FuncId → List AV → H → RV) (fun _ _ _ => .err "fuel") (fun _ ih f args h => match G.prim f with
    | some p => p args h
    | none => match G.fn f with
      | none => .err "no function"
      | some af => runF af ih args h) n

/-! ## compiling -/
def cVal : Nat → Value → Option AV
  | 0, _ => none
  | n + 1, v => match v with
    | .bool b => some (.bool b)
    | .int k i => some (.int k i)
    | .string s => some (.str s.data.toList)
    | .pointer none => some .nilp
    | .slice none 0 0 => some .snil
    | .map none => some .mapnil
    | .nilFunc => some .nilf
    | .nilIface => some .nili
    | .agg cs => (cVals n cs.toList).map .agg
    | .tuple cs => (cVals n cs.toList).map .tuple
    | _ => none
  where cVals (n : Nat) : List Value → Option (List AV)
  | [] => some []
  | v :: vs => match cVal n v with
    | some a => match cVals n vs with
      | some as => some (a :: as)
      | none => none
    | none => none
noncomputable def cOpd : Operand → Opd
  | .tmp t => match Nat.blt t 4095 with | true => otmp t | false => obad
  | .const v => match cVal 8 v with | some a => oconst a | none => obad
  | .global _ => obad
  | .func f => oconst (.func f [] [])
def isAggD : TypeDesc → Bool
  | .struct _ | .array _ _ => true
  | _ => false
def cZero (P : Program) (t : TypeId) : Option AV := (P.info? t).bind fun i => i.zero.bind (cVal 8)
def cIsAgg (P : Program) (t : TypeId) : Option Bool := (P.underlying t).map isAggD
def cSize (P : Program) (t : TypeId) : Option Nat := (P.info? t).map (·.size)
def cBytes (P : Program) (t : TypeId) : Option Nat := (P.info? t).map (·.bytes)

def orBad (x : Option OpK) (why : String) : OpK := match x with | some o => o | none => .bad why
noncomputable def cArgs : List Operand → List Opd
  | [] => []
  | x :: xs => cOpd x :: cArgs xs
def plainKey (P : Program) (k : TypeId) : Option Bool := match P.underlying k with
  | some (.int _) => some true
  | some .string => some false
  | _ => none
def plainFields (P : Program) : Nat → List Field → Option (List Bool)
  | _, [] => some []
  | i, f :: fs => match plainKey P f.type with
    | none => none
    | some b => match Nat.beq f.offset i with
      | false => none
      | true => match decide (f.name = "_") with
        | true => none
        | false => match plainFields P (i + 1) fs with
          | some l => some (b :: l)
          | none => none
/-- may this type be a key? -/
def keyNum (P : Program) (k : TypeId) : Option KK := match P.underlying k with
  | some (.int _) => some .int
  | some .string => some .str
  | some (.struct fs) => match plainFields P 0 fs.toList with
    | some l => (match P.stoodInHeld k with | true => none | false => some (.flds l))
    | none => none
  | _ => none
noncomputable def cAppend (P : Program) (t : Option TypeId) (u : Option TypeId) (s x : Opd) : OpK := match t, u with
  | some t, some u => match P.underlying t, P.underlying u with
    | some (.slice e), some (.slice _) | some (.slice e), some .string => match cSize P e, cBytes P e, cZero P e with
      | some n, some b, some z => match Nat.beq z.cells.length n with
        | true => .loud (appendf n b s x)
        | false => .bad "append"
      | _, _, _ => .bad "append"
    | _, _ => .bad "append"
  | _, _ => .bad "append"
noncomputable def cCopy (P : Program) (t : Option TypeId) (s x : Opd) : OpK := match t with
  | some t => match P.underlying t with
    | some (.slice e) => match cSize P e with
      | some n => .loud (copyf n s x)
      | none => .bad "copy"
    | _ => .bad "copy"
  | none => .bad "copy"
noncomputable def cLen (P : Program) (t : Option TypeId) (x : Opd) : OpK := match t with
  | some t => match P.underlying t with
    | some (.slice _) => .pure (lenSlcf x)
    | some .string => .pure (lenStrf x)
    | some (.map _ _) => .read (lenMapf x)
    | _ => .bad "len"
  | none => .bad "len"
noncomputable def cClear (P : Program) (t : Option TypeId) (x : Opd) : OpK := match t with
  | some t => match P.underlying t with
    | some (.slice e) => match cZero P e with
      | some z => .loud (clearf z.cells x)
      | none => .bad "clear"
    | some (.map _ _) => .loud (clearMf x)
    | _ => .bad "clear"
  | none => .bad "clear"
noncomputable def cDelete (P : Program) (t : Option TypeId) (m k : Opd) : OpK := match t with
  | some t => match P.underlying t with
    | some (.map kt _) => match keyNum P kt with
      | some n => .loud (deletef n m k)
      | none => .bad "delete"
    | _ => .bad "delete"
  | none => .bad "delete"
noncomputable def cBuiltin (P : Program) (b : Builtin) (c : Call) : OpK :=
  match b, cArgs c.args.toList with
    | .len, [x] => cLen P c.argTypes[0]? x
    | .min, xs => .pure (foldf min2 xs)
    | .max, xs => .pure (foldf max2 xs)
    | .append, [s, x] => cAppend P c.argTypes[0]? c.argTypes[1]? s x
    | .copy, [s, x] => cCopy P c.argTypes[0]? s x
    | .clear, [x] => cClear P c.argTypes[0]? x
    | .delete, [m, k] => cDelete P c.argTypes[0]? m k
    | _, _ => .bad "builtin"
noncomputable def cCall (P : Program) (c : Call) : OpK :=
  match c.callee with
  | .value (.func f) => .loud (callFf f (cArgs c.args.toList))
  | .value f => .loud (callVf (cOpd f) (cArgs c.args.toList))
  | .invoke _ _ => .bad "invoke"
  | .builtin b => cBuiltin P b c
def cPlaces (P : Program) (fs : List Field) : Option (List (Nat × Nat)) := fs.mapM (fun f => (P.info? f.type).map fun i => (f.offset, i.size))
noncomputable def cParts (places : List (Nat × Nat)) : List (Nat × Operand) → Option (List (Nat × Nat × Opd))
  | [] => some []
  | (i, x) :: ps => match places[i]? with
    | some (off, n) => match cParts places ps with
      | some l => some ((off, n, cOpd x) :: l)
      | none => none
    | none => none
noncomputable def cElems (s : Nat) : List (Nat × Operand) → List (Nat × Nat × Opd)
  | [] => []
  | (i, x) :: ps => (i * s, s, cOpd x) :: cElems s ps
noncomputable def cBuild (P : Program) (t : TypeId) (parts : Array (Nat × Operand)) : OpK := match cZero P t, P.underlying t with
  | some z, some (.struct fs) => match cPlaces P fs.toList with
    | some places => match cParts places parts.toList with
      | some ps => .pure (buildf z.cells ps)
      | none => .bad "build"
    | none => .bad "build"
  | some z, some (.array _ e) => match cSize P e with
    | some s => .pure (buildf z.cells (cElems s parts.toList))
    | none => .bad "build"
  | _, _ => .bad "build"
noncomputable def cBuildSlice (P : Program) (t : TypeId) (len : Nat) (parts : Array (Nat × Operand)) : OpK := match P.underlying t with
  | some (.slice e) => match cSize P e, cZero P e with
    | some s, some z => match Nat.beq z.cells.length s with
      | true => match Nat.ble (len * s) 16777216 with
        | true => .new (buildSlicef (repl len z.cells) len s (cElems s parts.toList))
        | false => .bad "buildSlice"
      | false => .bad "buildSlice"
    | _, _ => .bad "buildSlice"
  | _ => .bad "buildSlice"
noncomputable def cLoad (P : Program) (t : TypeId) (a : Opd) : OpK := match cIsAgg P t with
  | some true => match cSize P t with
    | some n => .read (loadNf n a)
    | none => .bad "load"
  | some false => .read (load1f a)
  | none => .bad "load"
noncomputable def cStore (P : Program) (t : TypeId) (a v : Opd) : OpK := match cIsAgg P t, cSize P t with
  | some true, some n => .loud (storeNf n a v)
  | some false, some 1 => .loud (store1f a v)
  | _, _ => .bad "store"
def isNilConst : Operand → Bool
  | .const .nilIface => true
  | _ => false
def cEq (P : Program) (t : TypeId) (x y : Operand) : Option (AV → AV → Option Bool) := match P.underlying t with
  | some (.int _) => some eqInt
  | some .string => some eqStr
  | some .bool => some eqBool
  | some (.pointer _) => some eqPtr
  | some (.slice _) => some eqSlc
  | some (.map _ _) => some eqMap
  | some (.func _ _ _) => some eqFun
  | some (.interface _) => match isNilConst x with
    | true => some eqIfc
    | false => match isNilConst y with
      | true => some eqIfc
      | false => none
  | _ => none
noncomputable def cBin (P : Program) (op : BinOp) (t : TypeId) (x y : Operand) : OpK := match op with
  | .add => .pure (binf add2 (cOpd x) (cOpd y))
  | .sub => .pure (binf (int2 subI) (cOpd x) (cOpd y))
  | .mul => .pure (binf (int2 mulI) (cOpd x) (cOpd y))
  | .quo => .pure (binf (int2 quoI) (cOpd x) (cOpd y))
  | .rem => .pure (binf (int2 remI) (cOpd x) (cOpd y))
  | .eql => match cEq P t x y with | some f => .pure (binf (eqOf false f) (cOpd x) (cOpd y)) | none => .bad "eql"
  | .neq => match cEq P t x y with | some f => .pure (binf (eqOf true f) (cOpd x) (cOpd y)) | none => .bad "neq"
  | .lss => .pure (binf lss2 (cOpd x) (cOpd y))
  | .leq => .pure (binf leq2 (cOpd x) (cOpd y))
  | .gtr => .pure (binf gtr2 (cOpd x) (cOpd y))
  | .geq => .pure (binf geq2 (cOpd x) (cOpd y))
  | .shl => .pure (binf shl2 (cOpd x) (cOpd y))
  | .shr => .pure (binf shr2 (cOpd x) (cOpd y))
  | .and => .pure (binf (int2 (bitsI .and)) (cOpd x) (cOpd y))
  | .or => .pure (binf (int2 (bitsI .or)) (cOpd x) (cOpd y))
  | .xor => .pure (binf (int2 (bitsI .xor)) (cOpd x) (cOpd y))
  | .andNot => .pure (binf (int2 (bitsI .andNot)) (cOpd x) (cOpd y))
def cUn (op : UnOp) (x : Opd) : OpK := match op with
  | .not => .pure (notf x)
  | .neg => .pure (negf x)
  | _ => .bad "unary"
noncomputable def cConvert (P : Program) (s d : TypeId) (x : Opd) : OpK := match P.underlying s, P.underlying d with
  | some (.int _), some (.int k) => .pure (toIntf k x)
  | some .string, some .string => .pure (samef x)
  | some (.int _), some .string => .pure (intToStrf x)
  | some .string, some (.slice e) => match P.underlying e with
    | some (.int .u8) => .new (strToBytesf x)
    | _ => .bad "convert"
  | some (.slice e), some .string => match P.underlying e with
    | some (.int .u8) => .read (bytesToStrf x)
    | _ => .bad "convert"
  | _, _ => .bad "convert"
def cMkIface (P : Program) (t : TypeId) (x : Opd) : OpK := match P.underlying t with
  | some (.interface _) => .bad "makeInterface"
  | some _ => .pure (mkIfacef t x)
  | none => .bad "makeInterface"
noncomputable def cMkSlice (P : Program) (t : TypeId) (l c : Opd) : OpK := match P.underlying t with
  | some (.slice e) => match cZero P e, cBytes P e, cSize P e with
    | some z, some b, some s => match Nat.beq z.cells.length s with
      | true => .new (mkSlicef z.cells b l c)
      | false => .bad "makeSlice"
    | _, _, _ => .bad "makeSlice"
  | _ => .bad "makeSlice"
noncomputable def cOpt : Option Operand → Option Opd
  | none => none
  | some x => some (cOpd x)
noncomputable def cSlice (P : Program) (t : TypeId) (x : Opd) (lo hi mx : Option Operand) : OpK := match P.underlying t with
  | some .string => match mx with
    | none => .pure (sliceStrf x (cOpt lo) (cOpt hi))
    | some _ => .bad "slice"
  | some (.slice e) => match cSize P e, hi, mx with
    | some n, _, none => .pure (sliceSlf n x (cOpt lo) (cOpt hi) none)
    | some n, some _, some m => .pure (sliceSlf n x (cOpt lo) (cOpt hi) (some (cOpd m)))
    | _, _, _ => .bad "slice"
  | _ => .bad "slice"
def cFieldAddr (P : Program) (t : TypeId) (x : Opd) (f : Nat) : OpK := match P.underlying t with
  | some (.struct fs) => match fs[f]? with
    | some f => match cSize P f.type with
      | some 0 => .bad "fieldAddr"
      | some _ => .pure (fieldAddrf f.offset x)
      | none => .bad "fieldAddr"
    | none => .bad "fieldAddr"
  | _ => .bad "fieldAddr"
def cField (P : Program) (t : TypeId) (x : Opd) (f : Nat) : OpK := match P.underlying t with
  | some (.struct fs) => match fs[f]? with
    | some f => match cIsAgg P f.type, cSize P f.type with
      | some true, some n => .pure (fieldNf f.offset n x)
      | some false, _ => .pure (field1f f.offset x)
      | _, _ => .bad "field"
    | none => .bad "field"
  | _ => .bad "field"
def cIndexAddr (P : Program) (t : TypeId) (x i : Opd) : OpK := match P.underlying t with
  | some (.slice e) => match cSize P e with
    | some n => .pure (indexAddrf n x i)
    | none => .bad "indexAddr"
  | some (.array n e) => match cSize P e with
    | some s => .pure (indexArrf s n x i)
    | none => .bad "indexAddr"
  | _ => .bad "indexAddr"
def cIndex (P : Program) (t : TypeId) (x i : Opd) : OpK := match P.underlying t with
  | some .string => .pure (indexStrf x i)
  | _ => .bad "index"
noncomputable def cLookup (P : Program) (t : TypeId) (x i : Opd) (ok : Bool) : OpK := match P.underlying t with
  | some (.map k e) => match keyNum P k, cZero P e with
    | some n, some z => .read (lookupf n z ok x i)
    | _, _ => .bad "lookup"
  | _ => .bad "lookup"
noncomputable def cMapUpdate (P : Program) (t : TypeId) (m k v : Opd) : OpK := match P.underlying t with
  | some (.map kt _) => match keyNum P kt with
    | some n => .loud (mapUpdatef n m k v)
    | none => .bad "mapUpdate"
  | _ => .bad "mapUpdate"
def cTypeAssert (P : Program) (x : Opd) (t : TypeId) (ok : Bool) : OpK := match P.underlying t, cZero P t with
  | some (.interface _), _ => .bad "typeAssert"
  | some _, some z => .pure (typeAssertf x t z ok)
  | _, _ => .bad "typeAssert"
noncomputable def cMkFunc (fn : Fn) (first cap : List Operand) : OpK := match fn with
  | .func f => .pure (mkFuncf f (cArgs first) (cArgs cap))
  | _ => .bad "makeFunc"
noncomputable def cAlloc (P : Program) (t : TypeId) : OpK := match cZero P t with
  | some z => .new (allocf z.cells)
  | none => .bad "alloc"

noncomputable def cOp (P : Program) (o : Op) : OpK :=
  match o with
  | .move x => .pure (cOpd x).f
  | .assign x => .pure (cOpd x).f
  | .pick c a b => .pure (pickf (cOpd c) (cOpd a) (cOpd b))
  | .alloc t => cAlloc P t
  | .box _ x => .new (boxf (cOpd x))
  | .build t parts => cBuild P t parts
  | .buildSlice t len parts => cBuildSlice P t len parts
  | .load t a => cLoad P t (cOpd a)
  | .store t a v => cStore P t (cOpd a) (cOpd v)
  | .nilCheck x => .pure (nilCheckf (cOpd x))
  | .binOp op t x y _ => cBin P op t x y
  | .unOp op _ x => cUn op (cOpd x)
  | .convert s d x => cConvert P s d (cOpd x)
  | .makeInterface t x => cMkIface P t (cOpd x)
  | .makeFunc fn first cap => cMkFunc fn first.toList cap.toList
  | .makeMap _ none => .new mkMapf
  | .makeSlice t l c => cMkSlice P t (cOpd l) (cOpd c)
  | .slice t x lo hi mx => cSlice P t (cOpd x) lo hi mx
  | .fieldAddr t x f => cFieldAddr P t (cOpd x) f
  | .field t x f => cField P t (cOpd x) f
  | .indexAddr t x i => cIndexAddr P t (cOpd x) (cOpd i)
  | .index t x i => cIndex P t (cOpd x) (cOpd i)
  | .lookup t x i ok => cLookup P t (cOpd x) (cOpd i) ok
  | .mapUpdate t m k v => cMapUpdate P t (cOpd m) (cOpd k) (cOpd v)
  | .typeAssert x _ t ok => cTypeAssert P (cOpd x) t ok
  | .extract x i => .pure (extractf (cOpd x) i)
  | .call c => cCall P c
  | _ => .bad "op"

/-- the place of a result: a slot of the frame -/
noncomputable def cDst (n : Nat) : Option Tmp → Option (Option (List Bool))
  | none => some none
  | some t => match Nat.blt t n with
    | true => match Nat.blt t 4095 with
      | true => some (some (wayOf t))
      | false => none
    | false => none
noncomputable def cGuard (ops : Array Oper) (g : Option (Nat × Bool)) : Option (Option (List Bool × Bool)) := match g with
  | none => some none
  | some (j, w) => match (ops[j]?).bind (·.dst) with
    | some t => match Nat.blt t 4095 with
      | true => some (some (wayOf t, w))
      | false => none
    | none => none
noncomputable def cOps (P : Program) (n : Nat) (ops : Array Oper) : List Oper → Clo
  | [] => endF
  | o :: os => match cDst n o.dst, cGuard ops o.guard with
    | some d, some none => consK d (cOp P o.op) (cOps P n ops os)
    | some d, some (some (p, w)) => guardF p w d (consK d (cOp P o.op) (cOps P n ops os)) (cOps P n ops os)
    | _, _ => badF "slot"

/-! orders: the operations that must come first, as bits -/
def bitOn (m i : Nat) : Bool := Nat.beq (Nat.mod (Nat.shiftRight m i) 2) 1
def maskOf (acc : List Nat) (j : Nat) : List Edge → Option Nat
  | [] => some 0
  | e :: es => match maskOf acc j es with
    | none => none
    | some m => match Region.binds .any e with
      | false => some m
      | true => match Nat.blt e.on j with
        | false => none
        | true => match acc[e.on]? with
          | none => none
          | some k => some (Nat.lor m (Nat.lor (Nat.shiftLeft 1 e.on) k))
/-- acc: the masks of the operations before, in order -/
def masks (acc : List Nat) (j : Nat) : List Oper → Option (List Nat)
  | [] => some acc
  | o :: os => match maskOf acc j o.after.toList with
    | none => none
    | some m => masks (acc ++ [m]) (j + 1) os
def isLoud : OpK → Bool
  | .loud _ => true
  | _ => false
/-- an operation that no loud one behind it may overtake -/
def isFirst : OpK → Bool
  | .loud _ => true
  | .new _ => true
  | _ => false
/-- the slots that an operation names -/
def slotsOf : List Operand → List Nat
  | [] => []
  | .tmp t :: xs => t :: slotsOf xs
  | _ :: xs => slotsOf xs
def guardSlot (ops : Array Oper) (o : Oper) : List Nat := match o.guard with
  | none => []
  | some (j, _) => match (ops[j]?).bind (·.dst) with
    | some t => [t]
    | none => []
def dstIn (d : Option Tmp) (l : List Nat) : Bool := match d with
  | none => false
  | some t => memB t l
def namesOf (ops : Array Oper) (o : Oper) : List Nat := guardSlot ops o ++ slotsOf o.op.operands.toList
/-- info of an operation: its slot, the slots it looks at, its mask, is it loud -/
structure Inf where
  dst : Option Tmp
  looks : List Nat
  mask : Nat
  loud : Bool
  first : Bool
noncomputable def infs (P : Program) (ops : Array Oper) : List Oper → List Nat → List Inf
  | o :: os, m :: ms => ⟨o.dst, namesOf ops o, m, isLoud (cOp P o.op), isFirst (cOp P o.op)⟩ :: infs P ops os ms
  | _, _ => []
/-- the one before (i) and the one behind: do they need an order? -/
def clash (a b : Inf) : Bool := match dstIn a.dst b.looks with
  | true => true
  | false => match dstIn b.dst a.looks with
    | true => true
    | false => match (match a.dst with | none => false | some t => dstIn b.dst [t]) with
      | true => true
      | false => match a.first with | true => b.loud | false => false
/-- every operation before j that clashes with it is in its mask -/
def ordOk1 (b : Inf) : Nat → List Inf → Bool
  | _, [] => true
  | i, a :: as => match clash a b with
    | false => ordOk1 b (i + 1) as
    | true => match bitOn b.mask i with
      | true => ordOk1 b (i + 1) as
      | false => false
def ordOk (before : List Inf) : List Inf → Bool
  | [] => true
  | b :: bs => match ordOk1 b 0 before with
    | true => ordOk (before ++ [b]) bs
    | false => false
/-- the versions of memory (before the first loud operation, before the second, .., at the end) at which operation i may stand and at which it does not stand in the order of the text: done: the loud ones that are done (their masks must not hold i); the others must not be in i's mask -/
def feasAt (i m : Nat) (k : Nat) : List Inf → Nat → Bool
  -- k: how many loud operations are done; j: the place in the list
  | [], _ => true
  | b :: bs, j => match b.loud with
    | false => feasAt i m k bs (j + 1)
    | true => match k with
      | 0 => match bitOn m j with | true => false | false => feasAt i m 0 bs (j + 1)
      | k + 1 => match bitOn b.mask i with | true => false | false => feasAt i m k bs (j + 1)
def countLoud : List Inf → Nat
  | [] => 0
  | b :: bs => match b.loud with | true => Nat.succ (countLoud bs) | false => countLoud bs
/-- for the versions k, k + 1, .. (n of them); own: the version of the text -/
def feasFrom (all : List Inf) (i m own : Nat) : Nat → Nat → List Bool
  | _, 0 => []
  | k, n + 1 => (match Nat.beq k own with | true => false | false => feasAt i m k all 0) :: feasFrom all i m own (k + 1) n
noncomputable def dops (P : Program) (n : Nat) (ops : Array Oper) (all : List Inf) (louds : Nat) : Nat → Nat → List Oper → List Inf → Option (List DOp)
  | _, _, [], _ => some []
  | i, own, o :: os, b :: bs => match cDst n o.dst, cGuard ops o.guard, dops P n ops all louds (i + 1) (match b.loud with | true => own + 1 | false => own) os bs with
    | some d, some g, some l => some (⟨d, cOp P o.op, g, feasFrom all i b.mask own 0 (louds + 1)⟩ :: l)
    | _, _, _ => none
  | _, _, _ :: _, [] => none
noncomputable def cDraw (P : Program) (n : Nat) (ops : Array Oper) : Clo :=
  match masks [] 0 ops.toList with
  | none => badF "edges"
  | some ms => match ordOk [] (infs P ops ops.toList ms) with
    | false => badF "unordered"
    | true => match dops P n ops (infs P ops ops.toList ms) (countLoud (infs P ops ops.toList ms)) 0 0 ops.toList (infs P ops ops.toList ms) with
      | none => badF "slots"
      | some l => drawF l

noncomputable def cCode (P : Program) (n : Nat) : Code → Clo
  | .skip => skipF
  | .region _ ops false => cOps P n ops ops.toList
  | .region _ ops true => cDraw P n ops
  | .seq a b => seqF (cCode P n a) (cCode P n b)
  | .cond c a b => condF (cOpd c) (cCode P n a) (cCode P n b)
  | .block id b => blockF id (cCode P n b)
  | .loop b => loopF (cCode P n b)
  | .exit id => exitF id
  | .ret => retF
  | .rangeFunc .. => badF "rangeFunc"
  | .scope b => cCode P n b
  | .label _ => skipF
  | .goto _ => badF "goto"
  | .refuse w => badF w

noncomputable def cRes (P : Program) : ResultVar → ARes
  | .tmp t => match Nat.blt t 4095 with | true => .tmp (wayOf t) | false => .bad
  | .cell a t => match Nat.blt a 4095 with
    | true => match cIsAgg P t with
      | some false => .cell1 (wayOf a)
      | some true => match cSize P t with | some n => .cellN n (wayOf a) | none => .bad
      | none => .bad
    | false => .bad
noncomputable def cFunc (P : Program) (f : Func) : AF :=
  { body := match f.body with | some c => cCode P f.ntmps c | none => badF "no body"
    results := f.results.toList.map (cRes P) }
end Go.Ax
