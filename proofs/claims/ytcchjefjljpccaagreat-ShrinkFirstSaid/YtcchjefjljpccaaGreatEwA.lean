/- The evaluator: definitions alone. -/
import Derived.Calls
import Derived.LoopN
import Derived.Scope
/- AN EVALUATOR OF THE MODEL'S CODE over abstract memory: definitions alone; what it is worth is proved in the texts behind this one. Recursors stand where the kernel runs often. -/
namespace Go.Ew

/-- a result, or why there is none -/
inductive Res (α : Type) where
  | ok (a : α)
  | no (why : String)
  deriving Inhabited
noncomputable def Res.and {α β : Type} (x : Res α) (k : α → Res β) : Res β := @Res.rec α (fun _ => Res β) k (fun w => .no w) x
noncomputable def ofOpt {α β : Type} (o : Option α) (why : String) (k : α → Res β) : Res β := @Option.rec α (fun _ => Res β) (.no why) k o
noncomputable def must {β : Type} (b : Bool) (why : String) (k : Res β) : Res β := @Bool.rec (fun _ => Res β) (.no why) k b
noncomputable def sel {α : Type} (b : Bool) (x y : α) : α := @Bool.rec (fun _ => α) y x b

/-- a tree with a value at each number -/
inductive Tr (α : Type) where
  | lf
  | nd (v : Option α) (l r : Tr α)
  deriving Inhabited
noncomputable def Tr.get {α : Type} (t : Tr α) : Nat → Option α :=
  @Tr.rec α (fun _ => Nat → Option α) (fun _ => none)
    (fun v _ _ gl gr n => @Bool.rec (fun _ => Option α) (@Bool.rec (fun _ => Option α) (gr (Nat.sub (Nat.div n 2) 1)) (gl (Nat.div n 2)) (Nat.beq (Nat.mod n 2) 1)) v (Nat.beq n 0)) t
/-- a tree of one value, handed on -/
noncomputable def setLf {α β : Type} (x : α) (d : Nat) : Nat → (Tr α → Res β) → Res β :=
  @Nat.rec (fun _ => Nat → (Tr α → Res β) → Res β) (fun _ _ => .no "setK: depth")
    (fun _ s n k => @Bool.rec (fun _ => Res β)
      (@Bool.rec (fun _ => Res β) (s (Nat.sub (Nat.div n 2) 1) fun t => k (.nd none .lf t)) (s (Nat.div n 2) fun t => k (.nd none t .lf)) (Nat.beq (Nat.mod n 2) 1))
      (k (.nd (some x) .lf .lf)) (Nat.beq n 0)) d
/-- the tree with a value set, handed on -/
noncomputable def Tr.setK {α β : Type} (t : Tr α) (n : Nat) (x : α) (k : Tr α → Res β) : Res β :=
  @Tr.rec α (fun _ => Nat → (Tr α → Res β) → Res β) (fun n k => setLf x 40 n k)
    (fun v l r sl sr n k => @Bool.rec (fun _ => Res β)
      (@Bool.rec (fun _ => Res β) (sr (Nat.sub (Nat.div n 2) 1) fun t => k (.nd v l t)) (sl (Nat.div n 2) fun t => k (.nd v t r)) (Nat.beq (Nat.mod n 2) 1))
      (k (.nd (some x) l r)) (Nat.beq n 0)) t n k

/-- what is known of a slice's capacity: its number; that the slice lies in a row that append made and reaches to the row's end; nothing (of an empty slice) -/
inductive Cap where
  | known (n : Nat) | opn | loose
  deriving Inhabited, Repr
/-- an abstract value: an address is a block, its version and a place in it -/
inductive AV where
  | bool (b : Bool)
  | int (k : IntKind) (n : Int)
  | nilptr
  | ptr (b v off : Nat)
  | nilslice
  | slice (b v off len : Nat) (cap : Cap)
  | nilFunc
  | func (f : FuncId) (first captured : List AV)
  | agg (l : List AV)
  | tuple (l : List AV)
  | yield (b : Nat)
  deriving Inhabited, Repr
def kindNo : IntKind → Nat
  | .i8 => 0 | .i16 => 1 | .i32 => 2 | .i64 => 3 | .u8 => 4 | .u16 => 5 | .u32 => 6 | .u64 => 7
def Cap.same : Cap → Cap → Bool
  | .known a, .known b => Nat.beq a b
  | .opn, .opn => true
  | .loose, .loose => true
  | _, _ => false
def sameInt : Int → Int → Bool
  | .ofNat a, .ofNat b => Nat.beq a b
  | .negSucc a, .negSucc b => Nat.beq a b
  | _, _ => false
def sameBool : Bool → Bool → Bool
  | true, b => b
  | false, b => !b
noncomputable def sameKind (k l : IntKind) : Bool := Nat.beq (kindNo k) (kindNo l)
noncomputable def same1 : AV → AV → Bool
  | .bool a, .bool b => sameBool a b
  | .int k a, .int l b => sel (sameKind k l) (sameInt a b) false
  | .nilptr, .nilptr => true
  | .ptr a b c, .ptr a' b' c' => sel (Nat.beq a a') (sel (Nat.beq b b') (Nat.beq c c') false) false
  | .nilslice, .nilslice => true
  | .slice a b c d e, .slice a' b' c' d' e' => sel (Nat.beq a a') (sel (Nat.beq b b') (sel (Nat.beq c c') (sel (Nat.beq d d') (e.same e') false) false) false) false
  | .nilFunc, .nilFunc => true
  | _, _ => false
noncomputable def sameL : List AV → List AV → Bool
  | [], [] => true
  | a :: r, b :: s => sel (same1 a b) (sameL r s) false
  | _, _ => false
/-- are two values the same by their text (function values and tuples: never) -/
noncomputable def AV.same : AV → AV → Bool
  | .agg l, .agg m => sameL l m
  | a, b => same1 a b
inductive X where
  | normal | exit (id : Nat) | ret
  deriving Inhabited, Repr
def X.isNormal : X → Bool
  | .normal => true
  | _ => false
/-- a loop over a function: the slots and the code of its rounds; where it stands (0 ready, 1 busy, 2 done, 3 over); how it was left -/
structure LRec where
  env : Tr AV
  sz : Nat
  params : List Tmp
  assign : Code
  body : Code
  st : Nat
  jump : X
/-- a block: its cells, how many, the last version, the extents of the versions before it that may still be read (the newest first), the size of an element where append made it -/
structure Blk where
  cells : Tr AV
  size : Nat
  ver : Nat
  exts : List Nat
  esz : Nat
  loop : Option LRec
  deriving Inhabited
abbrev Heap := Tr Blk
abbrev Env := Tr AV
def AV.cells : AV → List AV
  | .agg cs => cs
  | v => [v]
/-- the value of one cell -/
def AV.one : AV → Bool
  | .agg _ | .tuple _ => false
  | _ => true
noncomputable def allOne : List AV → Bool
  | [] => true
  | v :: r => sel v.one (allOne r) false
def ofScalar : Value → Option AV
  | .bool b => some (.bool b)
  | .int k n => some (.int k n)
  | .pointer none => some .nilptr
  | .slice none 0 0 => some .nilslice
  | .nilFunc => some .nilFunc
  | _ => none
def ofScalars : List Value → Option (List AV)
  | [] => some []
  | v :: r => match ofScalar v with
    | none => none
    | some a => match ofScalars r with | none => none | some l => some (a :: l)
def ofConst (v : Value) : Option AV := match v with
  | .agg cs => (match ofScalars cs.toList with | some l => some (.agg l) | none => none)
  | v => ofScalar v
section
variable {β : Type}
noncomputable def forceNat (n : Nat) (k : Nat → β) : β := @Nat.rec (fun _ => β) (k 0) (fun m _ => k (Nat.succ m)) n
noncomputable def forceInt (n : Int) (k : Int → β) : β := @Int.rec (fun _ => β) (fun m => forceNat m fun m => k (.ofNat m)) (fun m => forceNat m fun m => k (.negSucc m)) n
noncomputable def forceCap (c : Cap) (k : Cap → β) : β := match c with | .known n => forceNat n fun n => k (.known n) | .opn => k .opn | .loose => k .loose
noncomputable def forceBool (b : Bool) (k : Bool → β) : β := sel b (k true) (k false)
noncomputable def forceSlice (b v o l : Nat) (c : Cap) (k : AV → β) : β := forceNat b fun b => forceNat v fun v => forceNat o fun o => forceNat l fun l => forceCap c fun c => k (.slice b v o l c)
noncomputable def forcePtr (b v o : Nat) (k : AV → β) : β := forceNat b fun b => forceNat v fun v => forceNat o fun o => k (.ptr b v o)
/-- a value's numbers reckoned, the value handed on -/
noncomputable def force (v : AV) (k : AV → β) : β := match v with
  | .bool b => forceBool b fun b => k (.bool b)
  | .int kd n => forceInt n fun n => k (.int kd n)
  | .nilptr => k .nilptr
  | .ptr b v o => forcePtr b v o k
  | .nilslice => k .nilslice
  | .slice b v o l c => forceSlice b v o l c k
  | .nilFunc => k .nilFunc
  | .func f a c => k (.func f a c)
  | .agg l => k (.agg l)
  | .tuple l => k (.tuple l)
  | .yield b => k (.yield b)
end

noncomputable def arg (env : Env) (o : Operand) : Res AV := match o with
  | .tmp t => ofOpt (env.get t) "tmp" .ok
  | .const v => ofOpt (ofConst v) "const" .ok
  | .func f => .ok (.func f [] [])
  | .global _ => .no "global"
noncomputable def args (env : Env) : List Operand → Res (List AV)
  | [] => .ok []
  | o :: r => (arg env o).and fun v => (args env r).and fun l => .ok (v :: l)
noncomputable def parts (env : Env) : List (Nat × Operand) → Res (List (Nat × AV))
  | [] => .ok []
  | (i, o) :: r => (arg env o).and fun v => (parts env r).and fun l => .ok ((i, v) :: l)
noncomputable def argO (env : Env) (o : Option Operand) : Res (Option AV) := match o with
  | none => .ok none
  | some x => (arg env x).and fun v => .ok (some v)

/-- the extent of a version of a block -/
def nth : List Nat → Nat → Option Nat
  | [], _ => none
  | e :: r, n => match n with | 0 => some e | m+1 => nth r m
noncomputable def Blk.ext (b : Blk) (v : Nat) : Option Nat := sel (Nat.beq v b.ver) (some b.size) (sel (Nat.blt v b.ver) (nth b.exts (Nat.sub b.ver (Nat.succ v))) none)
/-- n cells from off on -/
noncomputable def cellsAt (t : Tr AV) (off n : Nat) : Option (List AV) :=
  @Nat.rec (fun _ => Nat → Option (List AV)) (fun _ => some []) (fun _ ih off => @Option.rec AV (fun _ => Option (List AV)) none (fun v => @Option.rec (List AV) (fun _ => Option (List AV)) none (fun r => some (v :: r)) (ih (Nat.succ off))) (t.get off)) n off
noncomputable def readCells (H : Heap) (b v off n : Nat) : Res (List AV) :=
  ofOpt (H.get b) "read: no block" fun blk => ofOpt (blk.ext v) "read: a version that may not be read" fun e =>
  must (Nat.ble (Nat.add off n) e) "read: beyond the extent" (ofOpt (cellsAt blk.cells off n) "read: no cell" .ok)
noncomputable def setCells {β : Type} (t : Tr AV) (off : Nat) (l : List AV) (k : Tr AV → Res β) : Res β :=
  @List.rec AV (fun _ => Tr AV → Nat → Res β) (fun t _ => k t) (fun v _ ih t off => Tr.setK t off v fun t => ih t (Nat.succ off)) l t off
noncomputable def cutExts (off : Nat) (l : List Nat) : List Nat := match l with | [] => [] | e :: r => sel (Nat.blt off e) [] (e :: r)
/-- cells written into the last version of a block -/
noncomputable def writeCells {β : Type} (H : Heap) (b v off : Nat) (l : List AV) (k : Heap → Res β) : Res β :=
  ofOpt (H.get b) "write: no block" fun blk =>
  must (Nat.beq v blk.ver) "write: not the last version" <| must (Nat.ble (Nat.add off l.length) blk.size) "write: beyond the extent" <|
  must (allOne l) "write: cells" <|
  setCells blk.cells off l fun cs => Tr.setK H b { cells := cs, size := blk.size, ver := blk.ver, exts := cutExts off blk.exts, esz := blk.esz, loop := none } k
/-- a new block -/
noncomputable def newBlk {β : Type} (H : Heap) (nx : Nat) (l : List AV) (esz : Nat) (k : Heap → Nat → Res β) : Res β :=
  must (allOne l) "new: cells" <|
  setCells .lf 0 l fun cs => forceNat l.length fun n => Tr.setK H nx { cells := cs, size := n, ver := 0, exts := [], esz := esz, loop := none } fun H => forceNat (Nat.succ nx) fun nx' => k H nx'

noncomputable def zeroCells (P : Program) (t : TypeId) : Res (List AV) :=
  ofOpt (P.info? t) "type" fun i => ofOpt i.zero "zero" fun z => ofOpt (ofScalars z.cells.toList) "zero: cells" .ok
noncomputable def sizeT (P : Program) (t : TypeId) : Res Nat := ofOpt (P.info? t) "type" fun i => .ok i.size
def isAggD : TypeDesc → Bool
  | .struct _ | .array _ _ => true
  | _ => false
/-- is a type's value many cells -/
noncomputable def aggT (P : Program) (t : TypeId) : Res Bool := ofOpt (P.underlying t) "type" fun d => .ok (isAggD d)
def elemD (d : TypeDesc) : Res TypeId := match d with | .slice e => .ok e | _ => .no "no slice type"
noncomputable def elemT (P : Program) (t : TypeId) : Res TypeId := ofOpt (P.underlying t) "type" elemD
def whole (agg : Bool) (l : List AV) : Res AV := match agg with
  | true => .ok (.agg l)
  | false => match l with | [x] => .ok x | _ => .no "one cell"
noncomputable def loadAt (P : Program) (H : Heap) (t : TypeId) (b v off : Nat) : Res AV := (sizeT P t).and fun n => (aggT P t).and fun agg => (readCells H b v off n).and fun l => whole agg l
noncomputable def loadA (P : Program) (H : Heap) (t : TypeId) (a : AV) : Res AV := match a with
  | .ptr b v off => loadAt P H t b v off
  | _ => .no "load: no address"
def rep (n : Nat) (l : List AV) : List AV := match n with | 0 => [] | n+1 => l ++ rep n l
def ltI : Int → Int → Bool
  | .ofNat a, .ofNat b => Nat.blt a b
  | .negSucc a, .negSucc b => Nat.blt b a
  | .negSucc _, .ofNat _ => true
  | .ofNat _, .negSucc _ => false
def leI : Int → Int → Bool
  | .ofNat a, .ofNat b => Nat.ble a b
  | .negSucc a, .negSucc b => Nat.ble b a
  | .negSucc _, .ofNat _ => true
  | .ofNat _, .negSucc _ => false
/-- is a number small (so that nothing wraps in 64 bits) -/
def small : Int → Bool
  | .ofNat m => Nat.ble m 4611686018427387904
  | .negSucc m => Nat.ble m 4611686018427387904
def byte : Int → Bool
  | .ofNat m => Nat.blt m 256
  | .negSucc _ => false
/-- IntKind.wrap, quickly where nothing wraps -/
noncomputable def wrapQ (k : IntKind) (n : Int) : Int := match k with
  | .i64 => sel (small n) n (IntKind.wrap .i64 n)
  | .u8 => sel (byte n) n (IntKind.wrap .u8 n)
  | k => k.wrap n
def bitsSlow (op : BinOp) (k : IntKind) (x y : Int) : Res AV := match op with
  | .and => .ok (.int k (k.wrap ((BitVec.ofInt k.bits x) &&& (BitVec.ofInt k.bits y)).toNat))
  | .or => .ok (.int k (k.wrap ((BitVec.ofInt k.bits x) ||| (BitVec.ofInt k.bits y)).toNat))
  | .xor => .ok (.int k (k.wrap ((BitVec.ofInt k.bits x) ^^^ (BitVec.ofInt k.bits y)).toNat))
  | _ => .no "bits"
def bits64 (op : BinOp) (a b : Nat) : Res AV := match op with
  | .and => .ok (.int .i64 (.ofNat (Nat.land a b)))
  | .or => .ok (.int .i64 (.ofNat (Nat.lor a b)))
  | .xor => .ok (.int .i64 (.ofNat (Nat.xor a b)))
  | _ => .no "bits"
noncomputable def bitsQ (op : BinOp) (k : IntKind) (x y : Int) : Res AV := match k, x, y with
  | .i64, .ofNat a, .ofNat b => sel (Nat.blt a 4611686018427387904) (sel (Nat.blt b 4611686018427387904) (bits64 op a b) (bitsSlow op .i64 (.ofNat a) (.ofNat b))) (bitsSlow op .i64 (.ofNat a) (.ofNat b))
  | k, x, y => bitsSlow op k x y
def isZero : Int → Bool
  | .ofNat n => Nat.beq n 0
  | _ => false
noncomputable def binInt (op : BinOp) (k : IntKind) (x y : Int) : Res AV := match op with
  | .add => .ok (.int k (wrapQ k (Int.add x y)))
  | .sub => .ok (.int k (wrapQ k (Int.sub x y)))
  | .mul => .ok (.int k (wrapQ k (Int.mul x y)))
  | .quo => must (!isZero y) "divide" (.ok (.int k (wrapQ k (Int.tdiv x y))))
  | .rem => must (!isZero y) "divide" (.ok (.int k (Int.tmod x y)))
  | .and => bitsQ .and k x y
  | .or => bitsQ .or k x y
  | .xor => bitsQ .xor k x y
  | .eql => .ok (.bool (sameInt x y))
  | .neq => .ok (.bool (!sameInt x y))
  | .lss => .ok (.bool (ltI x y))
  | .leq => .ok (.bool (leI x y))
  | .gtr => .ok (.bool (ltI y x))
  | .geq => .ok (.bool (leI y x))
  | _ => .no "binInt"
noncomputable def eq1 (d : TypeDesc) (a b : AV) : Res Bool := match d, a, b with
  | .int _, .int k x, .int l y => must (sameKind k l) "kinds" (.ok (sameInt x y))
  | .bool, .bool x, .bool y => .ok (sameBool x y)
  | _, _, _ => .no "eq1"
/-- structs of integers and bools, a cell a field -/
noncomputable def eqF (P : Program) : List Field → Nat → List AV → List AV → Res Bool
  | [], _, _, _ => .ok true
  | f :: r, n, a :: l, b :: m => must (Nat.beq f.offset n) "eq: field" <| must (f.name != "_") "eq: field" <| ofOpt (P.underlying f.type) "eq: type" fun d => (eq1 d a b).and fun t => sel t (eqF P r (Nat.succ n) l m) (.ok false)
  | _, _, _, _ => .no "eqF"
noncomputable def eqAgg (P : Program) (t : TypeId) (fs : Array Field) (l m : List AV) : Res Bool :=
  must (!P.stoodInHeld t) "eq: type" <| must (!P.eqGuardType P.depth t) "eq: type" <| eqF P fs.toList 0 l m
noncomputable def eqD (P : Program) (t : TypeId) (d : TypeDesc) (a b : AV) : Res Bool := match d, a, b with
  | .bool, .bool a, .bool b => .ok (sameBool a b)
  | .pointer _, .nilptr, .nilptr => .ok true
  | .pointer _, .nilptr, .ptr .. => .ok false
  | .pointer _, .ptr .., .nilptr => .ok false
  | .slice _, .nilslice, .nilslice => .ok true
  | .slice _, .nilslice, .slice .. => .ok false
  | .slice _, .slice .., .nilslice => .ok false
  | .func .., .nilFunc, .nilFunc => .ok true
  | .func .., .nilFunc, .func .. => .ok false
  | .func .., .func .., .nilFunc => .ok false
  | .struct fs, .agg l, .agg m => eqAgg P t fs l m
  | _, _, _ => .no "eqA"
noncomputable def eqA (P : Program) (t : TypeId) (a b : AV) : Res Bool := ofOpt (P.underlying t) "eq: type" fun d => eqD P t d a b
noncomputable def shiftN (op : BinOp) (k : IntKind) (x : Int) (n : Nat) : Res AV := match op with
    | .shl => .ok (.int k (wrapQ k (Int.mul x (.ofNat (Nat.pow 2 n)))))
    | .shr => .ok (.int k (x.fdiv (.ofNat (Nat.pow 2 n))))
    | _ => .no "shift"
noncomputable def shiftA (op : BinOp) (k : IntKind) (x y : Int) : Res AV := match y with
  | .ofNat n => must (Nat.ble n k.bits) "shift" (shiftN op k x n)
  | _ => .no "shift"
noncomputable def binI (op : BinOp) (k k' : IntKind) (x y : Int) : Res AV := match op with
    | .shl => shiftA .shl k x y
    | .shr => shiftA .shr k x y
    | op => must (sameKind k k') "kinds" (binInt op k x y)
noncomputable def binO (P : Program) (t : TypeId) (op : BinOp) (a b : AV) : Res AV := match op with
    | .eql => (eqA P t a b).and fun r => .ok (.bool r)
    | .neq => (eqA P t a b).and fun r => .ok (.bool (!r))
    | _ => .no "binA"
noncomputable def binA (P : Program) (t : TypeId) (op : BinOp) (a b : AV) : Res AV := match a, b with
  | .int k x, .int k' y => binI op k k' x y
  | a, b => binO P t op a b
def asNat (o : AV) : Res Nat := match o with
  | .int _ n => (match n with | .ofNat n => .ok n | _ => .no "asNat")
  | _ => .no "asNat"
noncomputable def optNat (o : Option AV) : Res (Option Nat) := match o with
  | none => .ok none
  | some v => (asNat v).and fun n => .ok (some n)
/-- the bounds of a slice expression over a known capacity -/
noncomputable def bounds (len cap : Nat) (low high max : Option Nat) (k : Nat → Nat → Nat → Res AV) : Res AV :=
  let m := max.getD cap
  must (Nat.ble m cap) "slice: max" <|
  must (match max, high with | some _, none => false | _, _ => true) "slice: max without high" <|
  let h := high.getD len
  must (match high with | some h => Nat.ble h m | none => true) "slice: high" <|
  let l := low.getD 0
  must (match low with | some l => Nat.ble l h | none => true) "slice: low" <| k l h m
noncomputable def sliceKnown (b v off len c sz : Nat) (low high max : Option Nat) : Res AV := bounds len c low high max fun l h m =>
        .ok (.slice b v (sel (Nat.beq m l) off (Nat.add off (Nat.mul l sz))) (Nat.sub h l) (.known (Nat.sub m l)))
noncomputable def sliceOpn (H : Heap) (b v off len sz : Nat) (low high max : Option Nat) : Res AV :=
      ofOpt (H.get b) "slice: no block" fun blk => ofOpt (blk.ext v) "slice: version" fun e =>
      must (Nat.beq sz blk.esz) "slice: size" <|
      -- so many elements lie there for sure
      let room := Nat.max len (Nat.div (Nat.sub e off) sz)
      bounds len room low high max fun l h m => match max with
        | some _ => sel (Nat.beq m l) (.no "slice: full and empty") (.ok (.slice b v (Nat.add off (Nat.mul l sz)) (Nat.sub h l) (.known (Nat.sub m l))))
        | none => must (Nat.ble l h) "slice: low" <| sel (Nat.blt l room) (.ok (.slice b v (Nat.add off (Nat.mul l sz)) (Nat.sub h l) .opn))
            (sel (Nat.beq l 0) (.ok (.slice b v off (Nat.sub h l) .opn)) (.ok (.slice b v off (Nat.sub h l) .loose)))
noncomputable def sliceA (P : Program) (H : Heap) (t : TypeId) (x : AV) (low high max : Option Nat) : Res AV :=
  (elemT P t).and fun e => (sizeT P e).and fun sz => match x with
    | .nilslice => bounds 0 0 low high max fun _ _ _ => .ok .nilslice
    | .slice b v off len cap => (match cap with
      | .known c => sliceKnown b v off len c sz low high max
      | .opn => sliceOpn H b v off len sz low high max
      | .loose => .no "sliceA")
    | _ => .no "sliceA"
noncomputable def fillK (cells : Tr AV) (size : Nat) (place : Nat → Option (Nat × Nat)) (l : List (Nat × AV)) (k : Tr AV → Res AV) : Res AV := match l with
  | [] => k cells
  | (i, v) :: r => match place i with
    | none => .no "fill: place"
    | some (off, n) => must (Nat.beq v.cells.length n) "fill: size" <| must (Nat.ble (Nat.add off n) size) "fill: end" <| setCells cells off v.cells fun cells => fillK cells size place r k
noncomputable def places (P : Program) : List Field → Res (List (Nat × Nat))
  | [] => .ok []
  | f :: r => (sizeT P f.type).and fun n => (places P r).and fun l => .ok ((f.offset, n) :: l)
noncomputable def partA (agg : Bool) (cs : List AV) (off n : Nat) : Res AV := match agg with
  | true => .ok (.agg ((cs.drop off).take n))
  | false => ofOpt cs[off]? "part" .ok
def lenA : AV → Res Nat
  | .nilslice => .ok 0
  | .slice _ _ _ n _ => .ok n
  | _ => .no "lenA"
def Cap.isLoose : Cap → Bool
  | .loose => true
  | _ => false
noncomputable def firstCells (H : Heap) (sz n : Nat) : AV → Res (List AV)
  | .nilslice => .ok []
  | .slice b v off _ c => sel (Nat.beq n 0) (.ok []) (must (!c.isLoose) "firstCells" (readCells H b v off (Nat.mul n sz)))
  | _ => .no "firstCells"
def noVal : AV := .tuple []
def capA : AV → Res AV
    | .nilslice => .ok (.int .i64 (.ofNat 0))
    | .slice _ _ _ _ (.known c) => .ok (.int .i64 (.ofNat c))
    | _ => .no "cap: not known"
/-- builtins that only tell -/
noncomputable def tellA (P : Program) (b : Builtin) (argTypes : List TypeId) (l : List AV) : Res AV := match b, l with
  | .len, [x] => ofOpt argTypes.head? "len" fun t => (elemT P t).and fun _ => (lenA x).and fun n => .ok (.int .i64 (.ofNat n))
  | .cap, [x] => ofOpt argTypes.head? "cap" fun t => (elemT P t).and fun _ => capA x
  | .max, [.int k x, .int k' y] => must (sameKind k k') "max" <| .ok (.int k (sel (ltI x y) y x))
  | .min, [.int k x, .int k' y] => must (sameKind k k') "min" <| .ok (.int k (sel (ltI y x) y x))
  | _, _ => .no "builtin"

/- QUIET OPERATIONS: they leave memory alone -/
noncomputable def qPick (env : Env) (c a b : Operand) : Res AV := (arg env c).and fun
    | .bool t => sel t (arg env a) (arg env b)
    | _ => .no "pick"
noncomputable def qLoad (P : Program) (env : Env) (H : Heap) (t : TypeId) (a : Operand) : Res AV := (arg env a).and fun p => loadA P H t p
noncomputable def qNil (env : Env) (x : Operand) : Res AV := (arg env x).and fun
    | .ptr b v o => .ok (.ptr b v o)
    | .func f a c => .ok (.func f a c)
    | _ => .no "nilCheck"
noncomputable def qBin (P : Program) (env : Env) (op : BinOp) (t : TypeId) (x y : Operand) : Res AV := (arg env x).and fun a => (arg env y).and fun b => binA P t op a b
noncomputable def unA (op : UnOp) (a : AV) : Res AV := match op, a with
    | .not, .bool b => .ok (.bool (!b))
    | .neg, .int kd n => .ok (.int kd (wrapQ kd (Int.sub 0 n)))
    | _, _ => .no "unOp"
noncomputable def qUn (env : Env) (op : UnOp) (x : Operand) : Res AV := (arg env x).and fun a => unA op a
noncomputable def convA (d : TypeDesc) (a : AV) : Res AV := match d, a with
    | .int kd, .int _ n => .ok (.int kd (wrapQ kd n))
    | _, _ => .no "convert"
noncomputable def qConv (P : Program) (env : Env) (src dst : TypeId) (x : Operand) : Res AV := ofOpt (P.underlying src) "convert" fun _ => ofOpt (P.underlying dst) "convert" fun d => (arg env x).and fun a => convA d a
noncomputable def qFunc (env : Env) (fn : Fn) (first captured : Array Operand) : Res AV := match fn with
    | .func f => (args env first.toList).and fun a => (args env captured.toList).and fun c => .ok (.func f a c)
    | _ => .no "makeFunc"
noncomputable def qSlice (P : Program) (env : Env) (H : Heap) (t : TypeId) (x : Operand) (lo hi mx : Option Operand) : Res AV := (arg env x).and fun v => (argO env lo).and fun lo => (argO env hi).and fun hi => (argO env mx).and fun mx =>
      (optNat lo).and fun lo => (optNat hi).and fun hi => (optNat mx).and fun mx => sliceA P H t v lo hi mx
noncomputable def fieldAddrA (P : Program) (i : Nat) (d : TypeDesc) (a : AV) : Res AV := match d, a with
    | .struct fields, .ptr b v off => ofOpt fields[i]? "field" fun f => (sizeT P f.type).and fun n => must (Nat.blt 0 n) "field: no cell" <| .ok (.ptr b v (Nat.add off f.offset))
    | _, _ => .no "fieldAddr"
noncomputable def qFieldAddr (P : Program) (env : Env) (t : TypeId) (x : Operand) (i : Nat) : Res AV := ofOpt (P.underlying t) "fieldAddr" fun d => (arg env x).and fun a => fieldAddrA P i d a
noncomputable def fieldA (P : Program) (i : Nat) (d : TypeDesc) (a : AV) : Res AV := match d, a with
    | .struct fields, .agg cs => ofOpt fields[i]? "field" fun f => (sizeT P f.type).and fun n => (aggT P f.type).and fun agg => partA agg cs f.offset n
    | _, _ => .no "field"
noncomputable def qField (P : Program) (env : Env) (t : TypeId) (x : Operand) (i : Nat) : Res AV := ofOpt (P.underlying t) "field" fun d => (arg env x).and fun a => fieldA P i d a
noncomputable def indexAddrA (P : Program) (n : Nat) (d : TypeDesc) (a : AV) : Res AV := match d, a with
    | .slice e, .slice b v off len _ => (sizeT P e).and fun sz => must (Nat.blt n len) "index" <| .ok (.ptr b v (Nat.add off (Nat.mul n sz)))
    | .array len e, .ptr b v off => (sizeT P e).and fun sz => must (Nat.blt n len) "index" <| .ok (.ptr b v (Nat.add off (Nat.mul n sz)))
    | _, _ => .no "indexAddr"
noncomputable def qIndexAddr (P : Program) (env : Env) (t : TypeId) (x i : Operand) : Res AV := (arg env i).and fun i => (asNat i).and fun n => ofOpt (P.underlying t) "indexAddr" fun d => (arg env x).and fun a => indexAddrA P n d a
noncomputable def indexStr (s : ByteArray) (n : Nat) : Res AV := ofOpt s[n]? "index" fun c => .ok (.int .u8 (.ofNat c.toNat))
noncomputable def indexArr (P : Program) (len : Nat) (e : TypeId) (n : Nat) (a : AV) : Res AV := match a with
    | .agg cs => (sizeT P e).and fun sz => (aggT P e).and fun agg => must (Nat.blt n len) "index" <| partA agg cs (Nat.mul n sz) sz
    | _ => .no "index"
noncomputable def qIndex (P : Program) (env : Env) (t : TypeId) (x i : Operand) : Res AV := (arg env i).and fun i => (asNat i).and fun n => ofOpt (P.underlying t) "index" fun d => (match d, x with
    | .string, .const (.string s) => indexStr s n
    | .array len e, x => (arg env x).and fun a => indexArr P len e n a
    | _, _ => .no "index")
def extractA (i : Nat) (a : AV) : Res AV := match a with
    | .tuple l => (match l[i]? with | some v => .ok v | none => .no "extract")
    | _ => .no "extract"
noncomputable def qExtract (env : Env) (x : Operand) (i : Nat) : Res AV := (arg env x).and fun a => extractA i a
noncomputable def buildA (P : Program) (z : List AV) (l : List (Nat × AV)) (d : TypeDesc) : Res AV := match d with
    | .struct fields => (places P fields.toList).and fun pl => setCells .lf 0 z fun cs => fillK cs z.length (fun i => pl[i]?) l fun cs => ofOpt (cellsAt cs 0 z.length) "build" fun r => .ok (.agg r)
    | .array _ e => (sizeT P e).and fun sz => setCells .lf 0 z fun cs => fillK cs z.length (fun i => some (Nat.mul i sz, sz)) l fun cs => ofOpt (cellsAt cs 0 z.length) "build" fun r => .ok (.agg r)
    | _ => .no "build"
noncomputable def qBuild (P : Program) (env : Env) (t : TypeId) (ps : Array (Nat × Operand)) : Res AV := (zeroCells P t).and fun z => (parts env ps.toList).and fun l => ofOpt (P.underlying t) "build" fun d => buildA P z l d
noncomputable def qCall (P : Program) (env : Env) (c : Call) : Res AV := match c.callee with
    | .builtin b => (args env c.args.toList).and fun l => tellA P b c.argTypes.toList l
    | _ => .no "call"
noncomputable def evQ (P : Program) (env : Env) (H : Heap) (op : Op) : Res AV := match op with
  | .move x => arg env x
  | .assign x => arg env x
  | .pick c a b => qPick env c a b
  | .load t a => qLoad P env H t a
  | .nilCheck x => qNil env x
  | .binOp op t x y _ => qBin P env op t x y
  | .unOp op _ x => qUn env op x
  | .convert src dst x => qConv P env src dst x
  | .makeFunc fn first captured => qFunc env fn first captured
  | .slice t x lo hi mx => qSlice P env H t x lo hi mx
  | .fieldAddr t x i => qFieldAddr P env t x i
  | .field t x i => qField P env t x i
  | .indexAddr t x i => qIndexAddr P env t x i
  | .index t x i => qIndex P env t x i
  | .extract x i => qExtract env x i
  | .build t ps => qBuild P env t ps
  | .call c => qCall P env c
  | _ => .no "operation"

/- OPERATIONS THAT MAKE ONE BLOCK: its cells, and the slice's length and capacity where a slice is given -/
noncomputable def alAlloc (P : Program) (t : TypeId) : Res (List AV × Option (Nat × Nat)) := (zeroCells P t).and fun z => .ok (z, none)
noncomputable def alBox (env : Env) (x : Operand) : Res (List AV × Option (Nat × Nat)) := (arg env x).and fun v => .ok (v.cells, none)
def aggCells : AV → Res (List AV)
        | .agg r => .ok r
        | _ => .no "agg"
noncomputable def alSlice (P : Program) (env : Env) (t : TypeId) (len : Nat) (ps : Array (Nat × Operand)) : Res (List AV × Option (Nat × Nat)) := (elemT P t).and fun e => (sizeT P e).and fun sz => (zeroCells P e).and fun z => (parts env ps.toList).and fun l =>
      must (Nat.ble (Nat.mul len sz) 1000000) "buildSlice" <| must (Nat.beq z.length sz) "buildSlice" <|
      (setCells .lf 0 (rep len z) fun cs => fillK cs (Nat.mul len sz) (fun i => some (Nat.mul i sz, sz)) l fun cs => ofOpt (cellsAt cs 0 (Nat.mul len sz)) "build" fun r => .ok (.agg r)).and fun a =>
      (aggCells a).and fun r => .ok (r, some (len, len))
noncomputable def alMake (P : Program) (env : Env) (t : TypeId) (l c : Operand) : Res (List AV × Option (Nat × Nat)) := (elemT P t).and fun e => ofOpt (P.info? e) "makeSlice" fun i => (arg env l).and fun l => (asNat l).and fun n => (arg env c).and fun c => (asNat c).and fun m =>
      must (Nat.ble n m) "makeSlice" <| must (Nat.ble m 1000000) "makeSlice" <| must (Nat.ble i.bytes 100000) "makeSlice" <| (zeroCells P e).and fun z => must (Nat.beq z.length i.size) "makeSlice" <| .ok (rep m z, some (n, m))
noncomputable def evAl (P : Program) (env : Env) (op : Op) : Res (List AV × Option (Nat × Nat)) := match op with
  | .alloc t => alAlloc P t
  | .box _ x => alBox env x
  | .buildSlice t len ps => alSlice P env t len ps
  | .makeSlice t l c => alMake P env t l c
  | _ => .no "operation"
def madeVal (nx : Nat) (s : Option (Nat × Nat)) : AV := match s with
  | none => .ptr nx 0 0
  | some (n, m) => .slice nx 0 0 n (.known m)

section
variable {β : Type}
noncomputable def apNil (sz : Nat) (H : Heap) (nx n : Nat) (new : List AV) (k : AV → Heap → Nat → Res β) : Res β := sel (Nat.beq n 0) (k .nilslice H nx) (must (Nat.ble n 1000000) "append: length" <| newBlk H nx new sz fun H nx' => k (.slice nx 0 0 n .opn) H nx')
noncomputable def apKnown (sz : Nat) (H : Heap) (nx b v off len c n : Nat) (new : List AV) (k : AV → Heap → Nat → Res β) : Res β :=
      sel (Nat.ble (Nat.add len n) c)
        (sel (Nat.beq n 0) (k (.slice b v off len (.known c)) H nx) (writeCells H b v (Nat.add off (Nat.mul len sz)) new fun H => k (.slice b v off (Nat.add len n) (.known c)) H nx))
        (must (Nat.ble (Nat.add len n) 1000000) "append: length" <| (sel (Nat.beq len 0) (.ok []) (readCells H b v off (Nat.mul len sz))).and fun old => newBlk H nx (old ++ new) sz fun H nx' => k (.slice nx 0 0 (Nat.add len n) .opn) H nx')
noncomputable def apGrow (sz : Nat) (H : Heap) (nx b len n : Nat) (new : List AV) (blk : Blk) (k : AV → Heap → Nat → Res β) : Res β :=
      must (Nat.ble (Nat.mul len sz) blk.size) "append: end" <| must (Nat.ble (Nat.add len n) 1000000) "append: length" <|
            setCells blk.cells (Nat.mul len sz) new fun cs => forceNat (Nat.succ blk.ver) fun ver => forceNat (Nat.mul (Nat.add len n) sz) fun size =>
            Tr.setK H b { cells := cs, size := size, ver := ver, exts := sel (Nat.beq (Nat.mul len sz) blk.size) (blk.size :: blk.exts) [], esz := blk.esz, loop := none } fun H => k (.slice b ver 0 (Nat.add len n) .opn) H nx
noncomputable def apOpn (sz : Nat) (H : Heap) (nx b v off len n : Nat) (new : List AV) (k : AV → Heap → Nat → Res β) : Res β :=
      sel (Nat.beq n 0) (k (.slice b v off len .opn) H nx) <|
        ofOpt (H.get b) "append: no block" fun blk => must (Nat.beq v blk.ver) "append: not the last version" <| must (Nat.beq off 0) "append: not at the head" <| must (Nat.beq sz blk.esz) "append: size" <|
        must (allOne new) "append: cells" <|
        sel (Nat.ble (Nat.mul (Nat.add len n) sz) blk.size)
          (writeCells H b v (Nat.mul len sz) new fun H => k (.slice b v 0 (Nat.add len n) .opn) H nx)
          (apGrow sz H nx b len n new blk k)
/-- append: the n elements 'new' behind s -/
noncomputable def appendA (sz : Nat) (H : Heap) (nx : Nat) (s : AV) (n : Nat) (new : List AV) (k : AV → Heap → Nat → Res β) : Res β := match s with
  | .nilslice => apNil sz H nx n new k
  | .slice b v off len cap => (match cap with
    | .known c => apKnown sz H nx b v off len c n new k
    | .opn => apOpn sz H nx b v off len n new k
    | .loose => sel (Nat.beq n 0) (k (.slice b v off len .loose) H nx) (.no "append to a loose slice"))
  | _ => .no "append: slice expected"
noncomputable def eAppendTo (P : Program) (H : Heap) (nx : Nat) (s x : AV) (e : TypeId) (sz : Nat) (d : TypeDesc) (k : AV → Heap → Nat → Res β) : Res β :=
  ofOpt (P.info? e) "append" fun i => must (Nat.ble i.bytes 100000) "append: bytes" <| ofOpt i.zero "append: zero" fun z => must (Nat.beq z.cells.size sz) "append: zero" <| must (Nat.blt 0 sz) "append: no cell" <| match d with
        | .int _ => (asNat x).and fun n => must (Nat.ble n 1000000) "append: make" <| (zeroCells P e).and fun z => appendA sz H nx s n (rep n z) k
        | _ => (lenA x).and fun n => (firstCells H sz n x).and fun new => appendA sz H nx s n new k
noncomputable def eAppend (P : Program) (H : Heap) (nx : Nat) (ts : List TypeId) (s x : AV) (k : AV → Heap → Nat → Res β) : Res β :=
  match ts with
  | [st, xt] => (elemT P st).and fun e => (sizeT P e).and fun sz => ofOpt (P.underlying xt) "append" fun d => eAppendTo P H nx s x e sz d k
  | _ => .no "append"
noncomputable def eClear (P : Program) (H : Heap) (nx : Nat) (ts : List TypeId) (x : AV) (k : AV → Heap → Nat → Res β) : Res β :=
  match ts with
  | [st] => (elemT P st).and fun e => (zeroCells P e).and fun z => (match x with
        | .nilslice => k noVal H nx
        | .slice b v off n _ => sel (Nat.beq n 0) (k noVal H nx) (writeCells H b v off (rep n z) fun H => k noVal H nx)
        | _ => .no "clear")
  | _ => .no "clear"
noncomputable def eCopy (P : Program) (H : Heap) (nx : Nat) (ts : List TypeId) (d s : AV) (k : AV → Heap → Nat → Res β) : Res β :=
  match ts with
  | [dt, _] => (elemT P dt).and fun e => (sizeT P e).and fun sz => (lenA s).and fun ns => (lenA d).and fun nd => forceNat (Nat.min ns nd) fun n => (firstCells H sz n s).and fun cells => (match d with
        | .nilslice => k (.int .i64 (.ofNat 0)) H nx
        | .slice b v off _ _ => sel (Nat.beq n 0) (k (.int .i64 (.ofNat 0)) H nx) (writeCells H b v off cells fun H => k (.int .i64 (.ofNat n)) H nx)
        | _ => .no "copy")
  | _ => .no "copy"
noncomputable def eBuiltin (P : Program) (H : Heap) (nx : Nat) (b : Builtin) (ts : List TypeId) (l : List AV) (k : AV → Heap → Nat → Res β) : Res β := match b, l with
      | .append, [s, x] => eAppend P H nx ts s x k
      | .clear, [x] => eClear P H nx ts x k
      | .copy, [d, s] => eCopy P H nx ts d s k
      | _, _ => .no "builtin"
noncomputable def storeA (P : Program) (H : Heap) (nx : Nat) (t : TypeId) (a x : AV) (k : AV → Heap → Nat → Res β) : Res β := match a with
    | .ptr b v off => (sizeT P t).and fun n => must (Nat.beq x.cells.length n) "store: size" <| writeCells H b v off x.cells fun H => k noVal H nx
    | _ => .no "store: no address"
/-- EFFECTS -/
noncomputable def evE (P : Program) (env : Env) (H : Heap) (nx : Nat) (op : Op) (k : AV → Heap → Nat → Res β) : Res β := match op with
  | .store t a x => (arg env a).and fun a => (arg env x).and fun x => storeA P H nx t a x k
  | .call c => (match c.callee with
    | .builtin b => (args env c.args.toList).and fun l => eBuiltin P H nx b c.argTypes.toList l k
    | _ => .no "call")
  | _ => .no "operation"
end

inductive Callee where
  | fn (f : FuncId)
  | yield (b : Nat)
noncomputable def calleeA (env : Env) (l : List Operand) (f : AV) : Res (Callee × List AV) := match f with
      | .func g first captured => (args env l).and fun l => .ok (.fn g, first ++ l ++ captured)
      | .yield b => (args env l).and fun l => .ok (.yield b, l)
      | _ => .no "call: no function"
/-- a call of a Go function: which, and with what -/
noncomputable def evCall (env : Env) (op : Op) : Res (Callee × List AV) := match op with
  | .call c => (match c.callee with
    | .value f => (arg env f).and fun f => calleeA env c.args.toList f
    | _ => .no "call")
  | _ => .no "operation"

inductive Cls where
  | mv | q | rd | al | e | call
/-- the kind of an operation: a value handed on; quiet; quiet and reading memory; making one block; an effect; a call -/
def cls (op : Op) : Cls := match op with
  | .move .. | .assign .. | .pick .. | .extract .. | .nilCheck .. => .mv
  | .load .. | .slice .. => .rd
  | .alloc .. | .box .. | .buildSlice .. | .makeSlice .. => .al
  | .store .. => .e
  | .call c => (match c.callee with
    | .builtin b => (match b with | .len | .cap | .max | .min => .q | _ => .e)
    | _ => .call)
  | _ => .q

noncomputable def putQ {β : Type} (n : Nat) (env : Env) (d : Option Tmp) (v : AV) (k : Env → Res β) : Res β := match d with
  | none => k env
  | some t => sel (Nat.blt t n) (Tr.setK env t v k) (.no "put: slot")
noncomputable def putK {β : Type} (n : Nat) (env : Env) (d : Option Tmp) (v : AV) (k : Env → Res β) : Res β := force v fun v => putQ n env d v k

structure Fin where
  x : X
  env : Env
  H : Heap
  nx : Nat
abbrev CodeFn := Nat → Code → Env → Heap → Nat → Res Fin
/-- what calls are known to give: the result, memory behind it -/
abbrev Ora := FuncId → List AV → Heap → Nat → Option (AV × Heap × Nat)
structure Evr where
  code : CodeFn
  ora : Ora

noncomputable def resultsA (P : Program) (env : Env) (H : Heap) : List ResultVar → Res (List AV)
  | [] => .ok []
  | .tmp t :: rest => ofOpt (env.get t) "result" fun v => (resultsA P env H rest).and fun l => .ok (v :: l)
  | .cell a t :: rest => ofOpt (env.get a) "result" fun p => (loadA P H t p).and fun v => (resultsA P env H rest).and fun l => .ok (v :: l)
def ofList (l : List AV) : AV := match l with
  | [v] => v
  | l => .tuple l
noncomputable def natMax (a b : Nat) : Nat := sel (Nat.ble a b) b a
/-- does a function's body end so -/
def X.ends : X → Bool
  | .exit _ => false
  | _ => true
noncomputable def endK {β : Type} (P : Program) (rs : List ResultVar) (k : AV → Heap → Nat → Res β) (r : Fin) : Res β :=
  must r.x.ends "exit out of a function" <| (resultsA P r.env r.H rs).and fun l => k (ofList l) r.H r.nx
/-- a call, its result handed on -/
noncomputable def callK {β : Type} (P : Program) (ev : CodeFn) (f : FuncId) (l : List AV) (H : Heap) (nx : Nat) (k : AV → Heap → Nat → Res β) : Res β :=
  ofOpt P.funcs[f]? "no function" fun fn => ofOpt fn.body "no body" fun c => must (fn.name != "runtime.NumGoroutine") "function" <|
  setCells .lf 0 l fun env => (ev (natMax fn.ntmps l.length) c env H nx).and fun r => endK P fn.results.toList k r

noncomputable def putPs {β : Type} (sz : Nat) : Env → List Tmp → List AV → (Env → Res β) → Res β
  | env, [], [], k => k env
  | env, t :: r, v :: l, k => sel (Nat.blt t sz) (Tr.setK env t v fun env => putPs sz env r l k) (.no "yield: slot")
  | _, _, _, _ => .no "yield: arguments"
noncomputable def getLoop {β : Type} (H : Heap) (b : Nat) (k : LRec → Res β) : Res β := ofOpt (H.get b) "loop" fun blk => ofOpt blk.loop "loop" k
/-- a loop's record laid -/
noncomputable def newLoop {β : Type} (H : Heap) (nx : Nat) (r : LRec) (k : Heap → Nat → Res β) : Res β := Tr.setK H nx { cells := .lf, size := 0, ver := 1, exts := [], esz := 0, loop := some r } fun H => forceNat (Nat.succ nx) fun nx' => k H nx'
/-- a loop's record turned -/
noncomputable def setLoop {β : Type} (H : Heap) (b : Nat) (st : Nat) (x : X) (k : Heap → Res β) : Res β := ofOpt (H.get b) "loop" fun blk => ofOpt blk.loop "loop" fun r =>
  Tr.setK H b { blk with loop := some { r with st := st, jump := x } } k
noncomputable def roundEnd {β : Type} (b : Nat) (r : Fin) (k : AV → Heap → Nat → Res β) : Res β := sel r.x.isNormal
  (setLoop r.H b 0 .normal fun H => k (.bool true) H r.nx) (setLoop r.H b 2 r.x fun H => k (.bool false) H r.nx)
/-- is there no range over a function, and no goto, in code? -/
noncomputable def noRange : Code → Bool
  | .seq a b | .cond _ a b => sel (noRange a) (noRange b) false
  | .block _ a | .loop a | .scope a => noRange a
  | .rangeFunc .. | .goto _ => false
  | _ => true
noncomputable def yieldK {β : Type} (ev : CodeFn) (b : Nat) (l : List AV) (H : Heap) (nx : Nat) (k : AV → Heap → Nat → Res β) : Res β :=
  getLoop H b fun r => must (noRange r.assign) "round: code" <| must (noRange r.body) "round: code" <| putPs r.sz r.env r.params l fun env =>
  (ev r.sz r.assign env H nx).and fun f => must f.x.isNormal "yield: assignment" <|
  getLoop f.H b fun r' => must (Nat.beq r'.st 0) "yield: not ready" <|
  setLoop f.H b 1 .normal fun H => (ev r.sz r.body f.env H f.nx).and fun g => roundEnd b g k
/-- a function's call: by the table, or by its code -/
noncomputable def callO {β : Type} (P : Program) (ev : Evr) (f : FuncId) (l : List AV) (H : Heap) (nx : Nat) (k : AV → Heap → Nat → Res β) : Res β :=
  @Option.rec (AV × Heap × Nat) (fun _ => Res β) (callK P ev.code f l H nx k) (fun r => k r.1 r.2.1 r.2.2) (ev.ora f l H nx)
noncomputable def anyK {β : Type} (P : Program) (ev : Evr) (c : Callee) (l : List AV) (H : Heap) (nx : Nat) (k : AV → Heap → Nat → Res β) : Res β := match c with
  | .fn f => callO P ev f l H nx k
  | .yield b => yieldK ev.code b l H nx k
noncomputable def rangeK (P : Program) (ev : Evr) (sz : Nat) (ps : List Tmp) (assign body : Code) (env : Env) (H : Heap) (nx : Nat) (f : AV) : Res Fin := match f with
  | .func g first captured => newLoop H nx { env := env, sz := sz, params := ps, assign := assign, body := body, st := 0, jump := .normal } fun H nx' =>
    callO P ev g (first ++ [.yield nx] ++ captured) H nx' fun _ H nx' => getLoop H nx fun r => must (Nat.ble r.st 0 || Nat.beq r.st 2) "endLoop" <|
    setLoop H nx 3 .normal fun H => .ok ⟨r.jump, env, H, nx'⟩
  | _ => .no "range: no function"
noncomputable def stRange (P : Program) (ev : Evr) (sz : Nat) (f : Operand) (ps : List Tmp) (assign body : Code) (env : Env) (H : Heap) (nx : Nat) : Res Fin :=
  (arg env f).and fun f => rangeK P ev sz ps assign body env H nx f
def isIt (w : Bool) (a : AV) : Bool := match a with | .bool c => sameBool c w | _ => false
noncomputable def guardJ (ops : Array Oper) (env : Env) (j : Nat) (w : Bool) : Res Bool := ofOpt ((ops[j]?).bind (·.dst)) "guard" fun t => ofOpt (env.get t) "guard" fun a => .ok (isIt w a)
noncomputable def guardA (ops : Array Oper) (env : Env) (o : Oper) : Res Bool := match o.guard with
  | none => .ok true
  | some (j, w) => guardJ ops env j w

abbrev Next := Env → Heap → Nat → Res Fin
noncomputable def seqMv (P : Program) (sz : Nat) (o : Oper) (env : Env) (H : Heap) (nx : Nat) (k : Next) : Res Fin := (evQ P env H o.op).and fun v => putQ sz env o.dst v fun env => k env H nx
noncomputable def seqQ (P : Program) (sz : Nat) (o : Oper) (env : Env) (H : Heap) (nx : Nat) (k : Next) : Res Fin := (evQ P env H o.op).and fun v => putK sz env o.dst v fun env => k env H nx
noncomputable def seqAl (P : Program) (sz : Nat) (o : Oper) (env : Env) (H : Heap) (nx : Nat) (k : Next) : Res Fin := (evAl P env o.op).and fun r => newBlk H nx r.1 0 fun H nx' => putK sz env o.dst (madeVal nx r.2) fun env => k env H nx'
noncomputable def seqE (P : Program) (sz : Nat) (o : Oper) (env : Env) (H : Heap) (nx : Nat) (k : Next) : Res Fin := evE P env H nx o.op fun v H nx => putK sz env o.dst v fun env => k env H nx
noncomputable def seqCall (P : Program) (ev : Evr) (sz : Nat) (o : Oper) (env : Env) (H : Heap) (nx : Nat) (k : Next) : Res Fin := (evCall env o.op).and fun r => anyK P ev r.1 r.2 H nx fun v H nx => putQ sz env o.dst v fun env => k env H nx
noncomputable def seqDo (P : Program) (ev : Evr) (sz : Nat) (o : Oper) (env : Env) (H : Heap) (nx : Nat) (k : Next) (c : Cls) : Res Fin := match c with
      | .mv => seqMv P sz o env H nx k
      | .q => seqQ P sz o env H nx k
      | .rd => seqQ P sz o env H nx k
      | .al => seqAl P sz o env H nx k
      | .e => seqE P sz o env H nx k
      | .call => seqCall P ev sz o env H nx k
noncomputable def seqStep (P : Program) (ev : Evr) (sz : Nat) (ops : Array Oper) (o : Oper) (k : Next) (env : Env) (H : Heap) (nx : Nat) : Res Fin := (guardA ops env o).and fun g =>
  sel g (seqDo P ev sz o env H nx k (cls o.op)) (putQ sz env o.dst noVal fun env => k env H nx)
/-- a region in the order of its text -/
noncomputable def evSeq (P : Program) (ev : Evr) (sz : Nat) (ops : Array Oper) (l : List Oper) : Next :=
  @List.rec Oper (fun _ => Next) (fun env H nx => .ok ⟨.normal, env, H, nx⟩) (fun o _ ih => seqStep P ev sz ops o ih) l

/- REGIONS WHOSE ORDER IS DRAWN -/
/-- which operations come before each: bit sets, the newest first -/
noncomputable def befStep (bs : List Nat) (n : Nat) (o : Oper) : Nat := o.after.toList.foldl (fun s e => sel (Region.binds .any e) (Nat.lor (Nat.lor s (Nat.shiftLeft 1 e.on)) (bs.getD (Nat.sub n (Nat.succ e.on)) 0)) s) 0
noncomputable def befAll : List Oper → List Nat → Nat → List Nat
  | [], bs, _ => bs
  | o :: r, bs, n => befAll r (befStep bs n o :: bs) (Nat.succ n)
noncomputable def befs (ops : List Oper) : List Nat := (befAll ops [] 0).reverse
/-- the edges that bind point back -/
noncomputable def edgesOk : List Oper → Nat → Bool
  | [], _ => true
  | o :: r, n => sel (o.after.toList.all fun e => !Region.binds .any e || Nat.blt e.on n) (edgesOk r (Nat.succ n)) false
/-- the slots that an operation looks at, that it writes, as bit sets -/
def looks1 (s : Nat) (x : Operand) : Nat := match x with | .tmp t => Nat.lor s (Nat.shiftLeft 1 t) | _ => s
def looks (ops : Array Oper) (o : Oper) : Nat :=
  let a := o.op.operands.toList.foldl looks1 0
  match o.guard with | none => a | some (j, _) => (match (ops[j]?).bind (·.dst) with | some t => Nat.lor a (Nat.shiftLeft 1 t) | none => a)
def writes (o : Oper) : Nat := match o.dst with | some t => Nat.shiftLeft 1 t | none => 0
/-- is an operation ordered behind every earlier one whose slots it shares? (the rows of the earlier ones: number, looks, writes) -/
noncomputable def slotsOk1 (bj lj wj : Nat) : List (Nat × Nat × Nat) → Bool
  | [] => true
  | (i, l, w) :: r => sel (Nat.beq (Nat.lor (Nat.land w (Nat.lor lj wj)) (Nat.land l wj)) 0) (slotsOk1 bj lj wj r) (sel (Nat.testBit bj i) (slotsOk1 bj lj wj r) false)
noncomputable def slotsOk (ops : Array Oper) : List Oper → List Nat → Nat → List (Nat × Nat × Nat) → Bool
  | [], _, _, _ => true
  | o :: r, bs, n, acc => match bs with
    | [] => false
    | b :: bs => sel (slotsOk1 b (looks ops o) (writes o) acc) (slotsOk ops r bs (Nat.succ n) ((n, looks ops o, writes o) :: acc)) false
noncomputable def drawOk (ops : Array Oper) : Bool :=
  sel (edgesOk ops.toList 0) (slotsOk ops ops.toList (befs ops.toList) 0 []) false

/-- what a drawn region remembers: operations that read memory (number, slots, operation, what it gave), effects (number, the memory ahead of it) -/
structure Mem where
  reads : List (Nat × Env × Op × AV)
  effs : List (Nat × Heap)
noncomputable def isOk (v : AV) : Res AV → Bool
  | .ok u => u.same v
  | .no _ => false
noncomputable def againReads (P : Program) (bi : Nat) (H : Heap) : List (Nat × Env × Op × AV) → Bool
  | [] => true
  | (j, env, op, v) :: r => sel (sel (Nat.testBit bi j) true (isOk v (evQ P env H op))) (againReads P bi H r) false
noncomputable def againEffs (P : Program) (bi : Nat) (env : Env) (op : Op) (v : AV) : List (Nat × Heap) → Bool
  | [] => true
  | (j, H) :: r => sel (sel (Nat.testBit bi j) true (isOk v (evQ P env H op))) (againEffs P bi env op v r) false
def chainOk (bi : Nat) (l : List (Nat × Heap)) : Bool := match l with
  | [] => true
  | (j, _) :: _ => Nat.testBit bi j

abbrev NextD := List Nat → Nat → Mem → Env → Heap → Nat → Res Fin
noncomputable def drwMv (P : Program) (sz : Nat) (o : Oper) (bs : List Nat) (i : Nat) (m : Mem) (env : Env) (H : Heap) (nx : Nat) (k : NextD) : Res Fin := (evQ P env H o.op).and fun v => putQ sz env o.dst v fun env => k bs (Nat.succ i) m env H nx
noncomputable def drwQ (P : Program) (sz : Nat) (o : Oper) (bs : List Nat) (i : Nat) (m : Mem) (env : Env) (H : Heap) (nx : Nat) (k : NextD) : Res Fin := (evQ P env H o.op).and fun v => putK sz env o.dst v fun env => k bs (Nat.succ i) m env H nx
noncomputable def drwRd (P : Program) (sz : Nat) (o : Oper) (b : Nat) (bs : List Nat) (i : Nat) (m : Mem) (env : Env) (H : Heap) (nx : Nat) (k : NextD) : Res Fin := (evQ P env H o.op).and fun v => must (againEffs P b env o.op v m.effs) ("a reading that an effect turns " ++ o.pos) <|
            putK sz env o.dst v fun env' => k bs (Nat.succ i) ⟨(i, env, o.op, v) :: m.reads, m.effs⟩ env' H nx
noncomputable def drwAl (P : Program) (sz : Nat) (o : Oper) (bs : List Nat) (i : Nat) (m : Mem) (env : Env) (H : Heap) (nx : Nat) (k : NextD) : Res Fin := (evAl P env o.op).and fun r => newBlk H nx r.1 0 fun H nx' => putK sz env o.dst (madeVal nx r.2) fun env => k bs (Nat.succ i) m env H nx'
noncomputable def drwPut (P : Program) (sz : Nat) (o : Oper) (b : Nat) (bs : List Nat) (i : Nat) (m : Mem) (env : Env) (H : Heap) (k : NextD) (v : AV) (H' : Heap) (nx' : Nat) : Res Fin := must (againReads P b H' m.reads) ("an effect that turns a reading " ++ o.pos) <|
            putK sz env o.dst v fun env => k bs (Nat.succ i) ⟨m.reads, (i, H) :: m.effs⟩ env H' nx'
noncomputable def drwE (P : Program) (sz : Nat) (o : Oper) (b : Nat) (bs : List Nat) (i : Nat) (m : Mem) (env : Env) (H : Heap) (nx : Nat) (k : NextD) : Res Fin := must (chainOk b m.effs) ("two effects in an open order " ++ o.pos) <| evE P env H nx o.op fun v H' nx' => drwPut P sz o b bs i m env H k v H' nx'
noncomputable def drwCall (P : Program) (ev : Evr) (sz : Nat) (o : Oper) (b : Nat) (bs : List Nat) (i : Nat) (m : Mem) (env : Env) (H : Heap) (nx : Nat) (k : NextD) : Res Fin := must (chainOk b m.effs) ("two effects in an open order " ++ o.pos) <| (evCall env o.op).and fun r => anyK P ev r.1 r.2 H nx fun v H' nx' => drwPut P sz o b bs i m env H k v H' nx'
noncomputable def drwDo (P : Program) (ev : Evr) (sz : Nat) (o : Oper) (b : Nat) (bs : List Nat) (i : Nat) (m : Mem) (env : Env) (H : Heap) (nx : Nat) (k : NextD) (c : Cls) : Res Fin := match c with
        | .mv => drwMv P sz o bs i m env H nx k
        | .q => drwQ P sz o bs i m env H nx k
        | .rd => drwRd P sz o b bs i m env H nx k
        | .al => drwAl P sz o bs i m env H nx k
        | .e => drwE P sz o b bs i m env H nx k
        | .call => drwCall P ev sz o b bs i m env H nx k
noncomputable def drwStep (P : Program) (ev : Evr) (sz : Nat) (ops : Array Oper) (o : Oper) (k : NextD) (bs : List Nat) (i : Nat) (m : Mem) (env : Env) (H : Heap) (nx : Nat) : Res Fin := match bs with
    | [] => .no "rows"
    | b :: bs => (guardA ops env o).and fun g => sel g (drwDo P ev sz o b bs i m env H nx k (cls o.op)) (putQ sz env o.dst noVal fun env => k bs (Nat.succ i) m env H nx)
noncomputable def evDrw (P : Program) (ev : Evr) (sz : Nat) (ops : Array Oper) (l : List Oper) : NextD :=
  @List.rec Oper (fun _ => NextD) (fun _ _ _ env H nx => .ok ⟨.normal, env, H, nx⟩) (fun o _ ih => drwStep P ev sz ops o ih) l

noncomputable def stRegion (P : Program) (ev : Evr) (sz : Nat) (ops : Array Oper) (draw : Bool) (env : Env) (H : Heap) (nx : Nat) : Res Fin := sel draw
    (must (drawOk ops) "draw" <| evDrw P ev sz ops ops.toList (befs ops.toList) 0 ⟨[], []⟩ env H nx)
    (evSeq P ev sz ops ops.toList env H nx)
/-- what comes behind code that ended normally -/
noncomputable def thenK (r : Fin) (k : Next) : Res Fin := sel r.x.isNormal (k r.env r.H r.nx) (.ok r)
noncomputable def stSeq (ev : CodeFn) (sz : Nat) (a b : Code) (env : Env) (H : Heap) (nx : Nat) : Res Fin := (ev sz a env H nx).and fun r => thenK r (ev sz b)
def asBool : AV → Res Bool
  | .bool b => .ok b
  | _ => .no "cond"
noncomputable def stCond (ev : CodeFn) (sz : Nat) (c : Operand) (a b : Code) (env : Env) (H : Heap) (nx : Nat) : Res Fin := (arg env c).and fun v => (asBool v).and fun t => ev sz (sel t a b) env H nx
noncomputable def X.out (id : Nat) : X → X
  | .exit id' => sel (Nat.beq id' id) .normal (.exit id')
  | x => x
noncomputable def stBlock (ev : CodeFn) (sz : Nat) (id : Nat) (a : Code) (env : Env) (H : Heap) (nx : Nat) : Res Fin := (ev sz a env H nx).and fun r => .ok ⟨r.x.out id, r.env, r.H, r.nx⟩
noncomputable def stepC (P : Program) (ev : Evr) (sz : Nat) (c : Code) (env : Env) (H : Heap) (nx : Nat) : Res Fin := match c with
  | .skip => .ok ⟨.normal, env, H, nx⟩
  | .region _ ops draw => stRegion P ev sz ops draw env H nx
  | .seq a b => stSeq ev.code sz a b env H nx
  | .cond c a b => stCond ev.code sz c a b env H nx
  | .block id a => stBlock ev.code sz id a env H nx
  | .loop a => stSeq ev.code sz a (.loop a) env H nx
  | .exit id => .ok ⟨.exit id, env, H, nx⟩
  | .ret => .ok ⟨.ret, env, H, nx⟩
  | .label _ => .ok ⟨.normal, env, H, nx⟩
  | .scope a => ev.code sz a env H nx
  | .rangeFunc f ps a b => stRange P ev sz f ps.toList a b env H nx
  | .goto .. => .no "goto"
  | .refuse w => .no w
noncomputable def evC (P : Program) (O : Ora) (n : Nat) : CodeFn := @Nat.rec (fun _ => CodeFn) (fun _ _ _ _ _ => .no "fuel") (fun _ ih => stepC P ⟨ih, O⟩) n

/-- a call, from the start -/
noncomputable def evF (P : Program) (O : Ora) (n : Nat) (f : FuncId) (l : List AV) (H : Heap) (nx : Nat) : Res (AV × Heap × Nat) := callK P (evC P O n) f l H nx fun v H nx => .ok (v, H, nx)
def isTrue : Res (AV × Heap × Nat) → Bool
  | .ok (.bool b, _, _) => b
  | _ => false
/-- does a call without arguments, over memory of which nothing is known, give true? -/
noncomputable def evTrue (P : Program) (O : Ora) (n : Nat) (f : FuncId) : Bool := isTrue (evF P O n f [] .lf 0)
end Go.Ew
