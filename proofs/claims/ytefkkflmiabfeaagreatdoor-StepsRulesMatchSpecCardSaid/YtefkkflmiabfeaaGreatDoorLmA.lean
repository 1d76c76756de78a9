/- Logical values, what is known of types, and an interpreter of the model's own code over logical values: definitions alone. -/
import Derived.Calls
import Derived.LoopN
import Derived.KernelRfl
set_option linter.unusedVariables false
set_option linter.unusedSimpArgs false
namespace Go.Lm

/-- The kind of a type. -/
inductive KD where
  | int (k : IntKind) | bool | str | slice | struct | array | ptr | map | func | iface | oth
/-- A logical value. 'sl': a slice that is only read; 'own': one whose room behind its end belongs to it alone; 'cptr v n o': a pointer to cell o of n cells of memory that hold v and never turn; 'lbox': a variable of the call's own; 'mp': a map's entries, 'obj': cells that are written (in the store alone); 'vec': the first cells of a block, likewise; 'osl': n elements of sz cells each of an object, from a cell on; 'glob': a block of the program's own. -/
inductive LV where
  | int (k : IntKind) (n : Int)
  | bool (b : Bool)
  | str (s : ByteArray)
  | nilsl
  | sl (sz : Nat) (xs : List LV)
  | own (e sz : Nat) (xs : List LV)
  | nsl (sz : Nat) (xs : List LV)
  | cptr (v : LV) (n o : Nat)
  | ptr (id o : Nat)
  | nilp
  | map (id : Nat)
  | nilm
  | fn (f : FuncId) (caps : List LV)
  | nilf
  | nili
  | agg (xs : List LV)
  | tup (xs : List LV)
  | lbox (xs : List LV)
  | mp (kd : KD) (kvs : List (LV × LV))
  | obj (t : Nat) (xs : List LV)
  | vec (t : Nat) (xs : List LV)
  | osl (id o sz n : Nat)
  | glob (k : Nat) (ob : Obj)
  | any
  | und
  deriving Inhabited

/-- A leaf as it reads beside its owner. -/
def dupL : LV → LV
  | .own _ sz xs => .sl sz xs
  | .lbox _ => .any
  | .mp _ _ => .any
  | .obj _ _ => .any
  | .vec _ _ => .any
  | .glob _ _ => .any
  | .agg _ => .any
  | .tup _ => .any
  | v => v
/-- A value as it reads beside its owner. -/
def dup : LV → LV
  | .own _ sz xs => .sl sz xs
  | .agg xs => .agg (xs.map dupL)
  | .lbox _ => .any
  | .mp _ _ => .any
  | .obj _ _ => .any
  | .vec _ _ => .any
  | .glob _ _ => .any
  | .tup _ => .any
  | v => v
def leaf : LV → Nat → LV
  | .agg xs, j => xs.getD j .any
  | v, 0 => v
  | _, _ + 1 => .any
def cellsOf : LV → List LV
  | .agg xs => xs
  | v => [v]

/-- Is its value one cell? -/
def one : LV → Bool
  | .any => false
  | .und => false
  | .agg _ => false
  | .tup _ => false
  | .lbox _ => false
  | .mp _ _ => false
  | .obj _ _ => false
  | .vec _ _ => false
  | .glob _ _ => false
  | _ => true

/-- What one cell holds. -/
inductive LK where
  | int (k : IntKind) | bool | str | sl (sz : Nat) | ptr | map | fn | oth
/-- What is known of a type. -/
structure TI where
  kd : KD
  lk : List LK
  zero : List LV
  fs : List (Nat × Nat × TypeId) := []
  esz : Nat := 0
  ebytes : Nat := 0
  el : TypeId := 0
  key : TypeId := 0
  len : Nat := 0
  eq : Option (List LK) := none
  zv : LV := .any

inductive LX where
  | nrm | ext (id : Nat) | ret

structure Q where
  E : List LV
  A : List (Option (Nat × Nat))
  S : List LV

section
variable {R : Type}

def ikN : IntKind → Nat
  | .i8 => 0 | .i16 => 1 | .i32 => 2 | .i64 => 3 | .u8 => 4 | .u16 => 5 | .u32 => 6 | .u64 => 7
def ifB (c : Bool) (t e : Option R) : Option R := match c with | true => t | false => e
def asInt (k : IntKind) (v : LV) (K : Int → Option R) : Option R := match v with
  | .int k' n => ifB (Nat.beq (ikN k') (ikN k)) (K n) none
  | _ => none
def asBool (v : LV) (K : Bool → Option R) : Option R := match v with | .bool b => K b | _ => none
def asStr (v : LV) (K : ByteArray → Option R) : Option R := match v with | .str b => K b | _ => none
def asSl (sz : Nat) (v : LV) (K : List LV → Option R) : Option R := match v with
  | .sl z xs => ifB (Nat.beq z sz) (K xs) none
  | .own _ z xs => ifB (Nat.beq z sz) (K xs) none
  | .nsl z xs => ifB (Nat.beq z sz) (K xs) none
  | .nilsl => K []
  | _ => none
def asFn (v : LV) (K : FuncId → List LV → Option R) : Option R := match v with | .fn f cs => K f cs | _ => none
def asMap (v : LV) (K : Nat → Option R) : Option R := match v with | .map id => K id | _ => none
def asPtr (v : LV) (K : Nat → Nat → Option R) : Option R := match v with | .ptr id o => K id o | _ => none
def mat (n : Nat) (v : LV) (K : List LV → Option R) : Option R := match v with
  | .agg xs => ifB (Nat.beq xs.length n) (K xs) none
  | _ => none
def dec (l : LK) (v : LV) (K : LV → Option R) : Option R := match l with
  | .int k => asInt k v fun n => K (.int k n)
  | .bool => asBool v fun b => K (.bool b)
  | .str => asStr v fun s => K (.str s)
  | .sl z => asSl z v fun xs => K (.sl z xs)
  | .ptr => K v
  | .map => K v
  | .fn => K v
  | .oth => K v
def decL : List LK → List LV → Nat → (List LV → Option R) → Option R
  | [], _, _, K => K []
  | l :: ls, xs, i, K => dec l (xs.getD i .any) fun v => decL ls xs (i + 1) fun r => K (v :: r)
/-- A value of a type out of its memory form. -/
def decT (t : TI) (v : LV) (K : LV → Option R) : Option R := match t.kd with
  | .struct | .array => mat t.lk.length v fun xs => decL t.lk xs 0 fun l => K (.agg l)
  | _ => match t.lk with
    | [l] => dec l v K
    | _ => none

def bt (s : ByteArray) (i : Int) : Int := if h : i.toNat < s.size then ((s[i.toNat]'h).toNat : Int) else 0
def idxStr (s : ByteArray) (i : Int) (K : Int → Option R) : Option R := ifB (decide (0 ≤ i ∧ i < s.size)) (K (bt s i)) none
def idxL (xs : List LV) (i : Int) (K : LV → Option R) : Option R := ifB (decide (0 ≤ i ∧ i < xs.length)) (K (xs.getD i.toNat .any)) none
def slStr (s : ByteArray) (lo hi : Int) (K : ByteArray → Option R) : Option R := ifB (decide (0 ≤ lo ∧ lo ≤ hi ∧ hi ≤ s.size)) (K (s.extract lo.toNat hi.toNat)) none
def slL (xs : List LV) (lo hi : Int) (K : List LV → Option R) : Option R := ifB (decide (0 ≤ lo ∧ lo ≤ hi ∧ hi ≤ xs.length)) (K ((xs.take hi.toNat).drop lo.toNat)) none
/-- append: the new length's bytes within what memory bears. -/
def app (bytes : Nat) (ys xs : List LV) (K : List LV → Option R) : Option R := ifB (decide ((ys.length + xs.length) * bytes ≤ 140737488355328 ∧ ys.length + xs.length ≤ 9223372036854775807)) (K (ys ++ xs)) none
def catStr (a b : ByteArray) (K : ByteArray → Option R) : Option R := ifB (decide (a.size + b.size ≤ 9223372036854775807)) (K (a ++ b)) none
def bytesL (s : ByteArray) : List LV := s.data.toList.map fun b => .int .u8 b.toNat
def strL : List LV → Option (List UInt8)
  | [] => some []
  | .int .u8 n :: xs => (strL xs).map (UInt8.ofNat n.toNat :: ·)
  | _ :: _ => none
def strOf (xs : List LV) (K : ByteArray → Option R) : Option R := match strL xs with | some l => K ⟨l.toArray⟩ | none => none

def ofVal : Value → LV
  | .int k n => .int k n
  | .bool b => .bool b
  | .string s => .str s
  | .slice none 0 0 => .nilsl
  | .pointer none => .nilp
  | .map none => .nilm
  | .nilFunc => .nilf
  | .nilIface => .nili
  | _ => .any
def ev (E : List LV) : Operand → LV
  | .tmp t => E.getD t .any
  | .const v => match v with
    | .agg cs => .agg (cs.toList.map ofVal)
    | v => ofVal v
  | .func f => .fn f []
  | .global _ => .any

def asI (v : LV) (K : Int → Option R) : Option R := match v with | .int _ n => K n | _ => none
def bitI (op : BinOp) (k : IntKind) (a b : Int) : Int := match op with
  | .and => k.wrap (BitVec.ofInt k.bits a &&& BitVec.ofInt k.bits b).toNat
  | .or => k.wrap (BitVec.ofInt k.bits a ||| BitVec.ofInt k.bits b).toNat
  | .xor => k.wrap (BitVec.ofInt k.bits a ^^^ BitVec.ofInt k.bits b).toNat
  | _ => k.wrap (BitVec.ofInt k.bits a &&& ~~~BitVec.ofInt k.bits b).toNat
def isShift : BinOp → Bool
  | .shl | .shr => true
  | _ => false
def shI (op : BinOp) (k : IntKind) (a b : Int) : Int := match op with
  | .shl => k.wrap (a * 2 ^ (min b.toNat k.bits))
  | _ => a.fdiv (2 ^ (min b.toNat k.bits))
def strEq (a b : ByteArray) : Bool := a.toList == b.toList
/-- Structs whose parts are numbers, truths and strings. -/
def eqLs : List LK → List LV → List LV → (Bool → Option R) → Option R
  | [], [], [], K => K true
  | .int k :: ls, x :: xs, y :: ys, K => asInt k x fun a => asInt k y fun b => eqLs ls xs ys fun r => K (a == b && r)
  | .bool :: ls, x :: xs, y :: ys, K => asBool x fun a => asBool y fun b => eqLs ls xs ys fun r => K (a == b && r)
  | .str :: ls, x :: xs, y :: ys, K => asStr x fun a => asStr y fun b => eqLs ls xs ys fun r => K (strEq a b && r)
  | _, _, _, _ => none
def isNil (v : LV) (K : Bool → Option R) : Option R := match v with
  | .nilsl => K true
  | .nsl _ _ => K false
  | .sl _ (_ :: _) => K false
  | .own _ _ (_ :: _) => K false
  | .osl _ _ _ _ => K false
  | _ => none
def isNilP (v : LV) (K : Bool → Option R) : Option R := match v with
  | .nilp => K true
  | .ptr _ _ => K false
  | .cptr _ _ _ => K false
  | _ => none
def intBin (op : BinOp) (k : IntKind) (a b : Int) (K : LV → Option R) : Option R :=
  match op with
  | .add => K (.int k (k.wrap (a + b)))
  | .sub => K (.int k (k.wrap (a - b)))
  | .mul => K (.int k (k.wrap (a * b)))
  | .eql => K (.bool (a == b))
  | .neq => K (.bool (a != b))
  | .lss => K (.bool (decide (a < b)))
  | .leq => K (.bool (decide (a ≤ b)))
  | .gtr => K (.bool (decide (a > b)))
  | .geq => K (.bool (decide (a ≥ b)))
  | .quo => ifB (decide (b = 0)) none (K (.int k (k.wrap (a.tdiv b))))
  | .rem => ifB (decide (b = 0)) none (K (.int k (a.tmod b)))
  | .and | .or | .xor | .andNot => K (.int k (bitI op k a b))
  | _ => none
def strLt (a b : ByteArray) : Bool := Op.bytesLess a.toList b.toList
def strBin (op : BinOp) (a b : ByteArray) (K : LV → Option R) : Option R :=
  match op with
  | .add => catStr a b fun s => K (.str s)
  | .eql => K (.bool (strEq a b))
  | .neq => K (.bool (!(strEq a b)))
  | .lss => K (.bool (strLt a b))
  | .leq => K (.bool (strLt a b || strEq a b))
  | .gtr => K (.bool (!(strLt a b || strEq a b)))
  | .geq => K (.bool (!(strLt a b)))
  | _ => none
def boolBin (op : BinOp) (a b : Bool) (K : LV → Option R) : Option R :=
  match op with
  | .eql => K (.bool (a == b))
  | .neq => K (.bool (!(a == b)))
  | _ => none
def binop (t : TI) (op : BinOp) (x y : LV) (K : LV → Option R) : Option R :=
  match t.kd with
  | .int k => (match isShift op with
    | true => asInt k x fun a => asI y fun b => ifB (decide (b < 0)) none (K (.int k (shI op k a b)))
    | false => asInt k x fun a => asInt k y fun b => intBin op k a b K)
  | .str => asStr x fun a => asStr y fun b => strBin op a b K
  | .bool => asBool x fun a => asBool y fun b => boolBin op a b K
  | .struct => (match t.eq with
    | some ls => mat ls.length x fun xs => mat ls.length y fun ys => eqLs ls xs ys fun r => boolBin op r true K
    | none => none)
  | .slice => (match y with
    | .nilsl => isNil x fun r => boolBin op r true K
    | _ => none)
  | .ptr => (match y with
    | .nilp => isNilP x fun r => boolBin op r true K
    | _ => none)
  | _ => none

def clearA (d : Nat) : List (Option (Nat × Nat)) → List (Option (Nat × Nat))
  | [] => []
  | some (e, o) :: A => (match Nat.beq e d with | true => none | false => some (e, o)) :: clearA d A
  | none :: A => none :: clearA d A
/-- A result into its slot. -/
def alOk (d : Nat) : Option (Nat × Nat) → Option (Nat × Nat)
  | some (e, o) => match Nat.beq e d with
    | true => none
    | false => some (e, o)
  | none => none
def Q.put (q : Q) (d : Option Tmp) (v : LV) (al : Option (Nat × Nat)) : Q := match d with
  | some d => { q with E := q.E.set d v, A := (clearA d q.A).set d (alOk d al) }
  | none => q
/-- A slot is written, the other ones stay as they are spelled: for the kernel's sake. -/
noncomputable def setK {α β : Type} (l : List α) : Nat → α → (List α → β) → β :=
  List.rec (motive := fun _ => Nat → α → (List α → β) → β) (fun _ _ k => k []) (fun h t ih n v k => Nat.rec (motive := fun _ => β) (k (v :: t)) (fun n _ => ih n v fun t' => k (h :: t')) n) l
theorem setK_eq {α β : Type} : ∀ (l : List α) (n : Nat) (v : α) (k : List α → β), setK l n v k = k (l.set n v)
  | [], _, _, _ => rfl
  | _ :: _, 0, _, _ => rfl
  | h :: t, n + 1, v, k => setK_eq t n v fun t' => k (h :: t')
noncomputable def Q.putK {β : Type} (q : Q) (d : Option Tmp) (v : LV) (al : Option (Nat × Nat)) (K : Q → β) : β := match d with
  | some d => setK q.E d v fun E => K ⟨E, (clearA d q.A).set d (alOk d al), q.S⟩
  | none => K q
theorem Q.putK_eq {β : Type} (q : Q) (d : Option Tmp) (v : LV) (al : Option (Nat × Nat)) (K : Q → β) : q.putK d v al K = K (q.put d v al) := by
  cases d with
  | none => rfl
  | some d => exact setK_eq _ _ _ _
/-- What was handed on by its owner. -/
def Q.used (q : Q) : Operand → Q
  | .tmp t => { q with E := q.E.set t (dup (q.E.getD t .any)) }
  | _ => q
/-- Is an operand the address of a variable of the call's own? -/
def Q.addr (q : Q) : Operand → Option (Nat × Nat)
  | .tmp t => match q.A.getD t none with
    | some p => some p
    | none => match q.E.getD t .any with
      | .lbox _ => some (t, 0)
      | _ => none
  | _ => none
def boxAt (E : List LV) (d : Nat) : List LV := match E.getD d .any with | .lbox xs => xs | _ => []
def setFrom : List LV → Nat → List LV → List LV
  | xs, _, [] => xs
  | xs, o, v :: vs => setFrom (xs.set o v) (o + 1) vs
def isAggK : KD → Bool
  | .struct | .array => true
  | _ => false
/-- The value of a type that lies at cell o of some cells. -/
def part (t : TI) (xs : List LV) (o : Nat) : LV := match isAggK t.kd with
  | true => .agg ((xs.drop o).take t.lk.length)
  | false => xs.getD o .any
/-- Operands that are handed on, one behind the other. -/
def takes : List Operand → Q → List LV × Q
  | [], q => ([], q)
  | x :: xs, q => (ev q.E x :: (takes xs (q.used x)).1, (takes xs (q.used x)).2)
def fillP (fs : List (Nat × Nat × TypeId)) : List Nat → List LV → List LV → Option (List LV)
  | [], _, z => some z
  | i :: is, vs, z => match fs[i]?, vs with
    | some (o, n, _), v :: vs => (match Nat.beq (cellsOf v).length n && (cellsOf v).all one && Nat.ble (o + n) z.length with
      | true => fillP fs is vs (setFrom z o (cellsOf v))
      | false => none)
    | _, _ => none
def partsInOrder : Nat → List (Nat × Operand) → Bool
  | _, [] => true
  | n, (i, _) :: ps => Nat.beq i n && partsInOrder (n + 1) ps

/-- A value that one machine value alone reads as. -/
def rigid : LV → Option Value
  | .int k n => some (.int k n)
  | .bool b => some (.bool b)
  | .str s => some (.string s)
  | _ => none
/-- Is it a key of that kind? -/
def keyOk : KD → LV → Bool
  | .int k, .int k' _ => Nat.beq (ikN k') (ikN k)
  | .bool, .bool _ => true
  | .str, .str _ => true
  | _, _ => false
def keyEq : LV → LV → Bool
  | .int _ a, .int _ b => decide (a = b)
  | .bool a, .bool b => a == b
  | .str a, .str b => decide (a = b)
  | _, _ => false
def mapGet : List (LV × LV) → LV → Option LV
  | [], _ => none
  | (k, v) :: l, x => match keyEq k x with
    | true => some v
    | false => mapGet l x
def mapPut : List (LV × LV) → LV → LV → List (LV × LV)
  | [], x, y => [(x, y)]
  | (k, v) :: l, x, y => match keyEq k x with
    | true => (k, y) :: l
    | false => (k, v) :: mapPut l x y
def kdN : KD → Nat
  | .int k => ikN k
  | .bool => 10
  | .str => 11
  | _ => 12
/-- The entries of a map of the store, the keys of a kind. -/
def mpAt (S : List LV) (id : Nat) (kd : KD) (K : List (LV × LV) → Option R) : Option R := match S.getD id .any with
  | .mp kd' kvs => ifB (Nat.beq (kdN kd') (kdN kd) && Nat.blt (kdN kd) 12) (K kvs) none
  | _ => none

def objAt (S : List LV) (id : Nat) (K : (List LV → LV) → List LV → Option R) : Option R := match S.getD id .any with
  | .obj t xs => K (.obj t) xs
  | .vec t xs => K (.vec t) xs
  | _ => none
def newObj (S : List LV) (x : LV) (K : Nat → List LV → Option R) : Option R := K S.length (S ++ [x])
/-- One cell of an object, by its kind. -/
def ldL (l : LK) (xs : List LV) (p : Nat) (K : LV → Option R) : Option R := ifB (Nat.blt p xs.length) (dec l (dupL (xs.getD p .any)) K) none
def ldO (t : TI) (xs : List LV) (p : Nat) (K : LV → Option R) : Option R := match isAggK t.kd with
  | true => ifB (Nat.ble (p + t.lk.length) xs.length) (decL t.lk (xs.map dupL) p fun l => K (.agg l)) none
  | false => match t.lk with
    | [l] => ldL l xs p K
    | _ => none
def asOwn (e z : Nat) (v : LV) (K : List LV → Option R) : Option R := match v with
  | .own e' z' xs => ifB (Nat.beq e' e && Nat.beq z' z) (K xs) none
  | .nilsl => K []
  | _ => none
def stO (xs : List LV) (p : Nat) (cs : List LV) (K : List LV → Option R) : Option R := ifB (Nat.ble (p + cs.length) xs.length) (K (setFrom xs p cs)) none
def ldInt (k : IntKind) (xs : List LV) (p : Nat) (K : Int → Option R) : Option R := ifB (Nat.blt p xs.length) (asInt k (dupL (xs.getD p .any)) K) none
def ldBool (xs : List LV) (p : Nat) (K : Bool → Option R) : Option R := ifB (Nat.blt p xs.length) (asBool (dupL (xs.getD p .any)) K) none
def ldStr (xs : List LV) (p : Nat) (K : ByteArray → Option R) : Option R := ifB (Nat.blt p xs.length) (asStr (dupL (xs.getD p .any)) K) none
def ldSl (z : Nat) (xs : List LV) (p : Nat) (K : List LV → Option R) : Option R := ifB (Nat.blt p xs.length) (asSl z (dupL (xs.getD p .any)) K) none
def ldRaw (xs : List LV) (p : Nat) (K : LV → Option R) : Option R := ifB (Nat.blt p xs.length) (K (dupL (xs.getD p .any))) none
def setS (S : List LV) (K : List LV → Option R) : Option R := K S
def zeros (n : Nat) (zs : List LV) : List LV := (List.replicate n zs).flatten
def mkN (n : Int) (bytes : Nat) (K : Nat → Option R) : Option R := ifB (decide (0 ≤ n ∧ bytes * n ≤ 140737488355328 ∧ n ≤ 9223372036854775807)) (K n.toNat) none
def idxN (n : Nat) (i : Int) (K : Nat → Option R) : Option R := ifB (decide (0 ≤ i ∧ i < n)) (K i.toNat) none
/-- The elements that lie in cells. -/
def chunks (z n : Nat) (xs : List LV) : List LV := match Nat.beq z 1 with
  | true => xs.map dupL
  | false => (List.range n).map fun i => .agg (((xs.drop (i * z)).take z).map dupL)
/-- What was written stays as it is from here on. -/
def frzQ (t : Nat) (q : Q) (K : Q → Option R) : Option R := match q.E.getD t .any with
  | .osl id p z n => objAt q.S id fun ty xs => ifB (Nat.beq p 0 && Nat.beq (n * z) xs.length && Nat.blt 0 z && Nat.ble n 9223372036854775807) (K { q with E := q.E.set t (.sl z (chunks z n xs)), S := q.S.set id .any }) none
  | _ => none
def frzO (z : Nat) (v : LV) (S : List LV) (K : List LV → List LV → Option R) : Option R := match v with
  | .osl id p z' n => objAt S id fun _ xs => ifB (Nat.beq z' z && (Nat.beq p 0 && Nat.beq (n * z) xs.length && Nat.blt 0 z && Nat.ble n 9223372036854775807)) (K (chunks z n xs) (S.set id .any)) none
  | .nilsl => K [] S
  | _ => none
def oslOr (v : LV) (A : Nat → Nat → Nat → Nat → Option R) (B : Option R) : Option R := match v with
  | .osl id p z n => A id p z n
  | _ => B
def flg (o : Oper) : Nat := o.type / 1000000
def lookR (ok : Bool) (y : LV) (b : Bool) : LV := match ok with
  | false => y
  | true => .tup [y, .bool b]

/-- Slices over objects, or nil ones: lengths, first parts, appends. -/
def lenO (v : LV) (K : Nat → Option R) : Option R := match v with
  | .osl _ _ _ n => K n
  | .nilsl => K 0
  | _ => none
def slO (z : Nat) (v : LV) (m : Int) (K : LV → Option R) : Option R := match v with
  | .osl id p z' n => ifB (Nat.beq z' z && decide (0 ≤ m ∧ m ≤ n)) (K (.osl id p z m.toNat)) none
  | .nilsl => ifB (decide (m = 0)) (K .nilsl) none
  | _ => none
def flatC (z : Nat) (ys : List LV) : List LV := match Nat.beq z 1 with
  | true => ys.map fun v => leaf v 0
  | false => ys.flatMap fun v => (List.range z).map (leaf v)
def cellsAt (S : List LV) (id : Nat) (K : Nat → List LV → Option R) : Option R := match S.getD id .any with
  | .obj t xs => K t xs
  | .vec t xs => K t xs
  | _ => none
def fitsB (n m bytes : Nat) : Bool := decide ((n + m) * bytes ≤ 140737488355328 ∧ n + m ≤ 9223372036854775807)
/-- append to what nobody else looks at: a new object. -/
def appO (e z bytes : Nat) (S : List LV) (v : LV) (ys : List LV) (K : LV → List LV → Option R) : Option R := match v with
  | .osl id p z' n => cellsAt S id fun ty xs => ifB (Nat.beq ty e && Nat.beq p 0 && Nat.beq z' z && Nat.blt 0 z && Nat.ble (n * z) xs.length && fitsB n ys.length bytes)
      (K (.osl S.length 0 z (n + ys.length)) (S.set id .any ++ [.vec e (xs.take (n * z) ++ flatC z ys)])) none
  | .nilsl => ifB (Nat.blt 0 z && Nat.blt 0 ys.length && fitsB 0 ys.length bytes) (K (.osl S.length 0 z ys.length) (S ++ [.vec e (flatC z ys)])) none
  | _ => none

/-- A handler: what a call of a function answers. -/
abbrev Hd (R : Type) := List LV → List LV → (LV → List LV → Option R) → Option R

def intOr (E : List LV) (x : Option Operand) (d : Int) (K : Int → Option R) : Option R := match x with
  | some x => asI (ev E x) K
  | none => K d

/-- What is appended: a slice, or a string's bytes. -/
def srcL (k : KD) (ez z : Nat) (y : LV) (K : List LV → Option R) : Option R := match k with
  | .slice => ifB (Nat.beq ez z) (asSl z y K) none
  | .str => ifB (Nat.beq z 1) (asStr y fun s => K (bytesL s)) none
  | _ => none
def minI (a b : Int) : Int := if b < a then b else a
def callB (T : Nat → Option TI) (b : Builtin) (at_ : Array TypeId) (args : Array Operand) (q : Q) (K : LV → Option (Nat × Nat) → Q → Option R) : Option R :=
  match b, at_.toList, args.toList with
  | .len, [t], [x] => (match T t with
    | some t => (match t.kd with
      | .str => asStr (ev q.E x) fun s => K (.int .i64 s.size) none q
      | .slice => oslOr (ev q.E x) (fun _ _ _ n => K (.int .i64 n) none q) (asSl t.esz (ev q.E x) fun xs => K (.int .i64 xs.length) none q)
      | _ => none)
    | none => none)
  | .append, [t, t'], [x, y] => (match T t, T t' with
    | some t, some t' => (match t.kd with
      | .slice => (match ev q.E x with
        | .own e z ys => ifB (Nat.beq e t.el && Nat.beq z t.esz) (srcL t'.kd t'.esz t.esz (ev q.E y) fun xs => app t.ebytes ys xs fun zs => K (.own t.el t.esz zs) none (q.used x)) none
        | .nilsl => srcL t'.kd t'.esz t.esz (ev q.E y) fun xs => app t.ebytes [] xs fun zs => K (.own t.el t.esz zs) none (q.used x)
        | _ => none)
      | _ => none)
    | _, _ => none)
  | .min, _, [x, y] => (match ev q.E x, ev q.E y with
    | .int k a, .int _ b => K (.int k (minI a b)) none q
    | _, _ => none)
  | _, _, _ => none

/-- Builtins over maps. -/
def callM (T : Nat → Option TI) (b : Builtin) (at_ : Array TypeId) (args : Array Operand) (q : Q) (K : LV → Option (Nat × Nat) → Q → Option R) : Option R :=
  match b, at_.toList, args.toList with
  | .len, [t], [x] => (match T t with
    | some t => (match t.kd, T t.key with
      | .map, some kt => asMap (ev q.E x) fun id => mpAt q.S id kt.kd fun kvs => K (.int .i64 kvs.length) none q
      | .slice, _ => lenO (ev q.E x) fun n => K (.int .i64 n) none q
      | _, _ => none)
    | none => none)
  | .append, [t, t'], [x, y] => (match T t, T t' with
    | some t, some t' => (match t.kd with
      | .slice => srcL t'.kd t'.esz t.esz (ev q.E y) fun ys => appO t.el t.esz t.ebytes q.S (ev q.E x) ys fun v S => K v none { q with S := S }
      | _ => none)
    | _, _ => none)
  | _, _, _ => none

/-- A variable of the call's own is written whole. -/
def storeD (T : Nat → Option TI) (t : TypeId) (x y : Operand) (q : Q) (K : LV → Option (Nat × Nat) → Q → Option R) : Option R := match T t, x with
  | some t, .tmp d => (match q.A.getD d none, q.E.getD d .any with
    | none, .lbox xs => (match Nat.ble (0 + t.lk.length) xs.length && Nat.blt 0 t.lk.length && Nat.beq (cellsOf (dup (ev q.E y))).length t.lk.length && (cellsOf (dup (ev q.E y))).all one with
      | true => K .any none { q with E := q.E.set d (.lbox (setFrom xs 0 (cellsOf (dup (ev q.E y))))) }
      | false => none)
    | _, _ => none)
  | _, _ => none
def lop (T : Nat → Option TI) (C : Nat → Hd R) (o : Oper) (q : Q) (K : LV → Option (Nat × Nat) → Q → Option R) : Option R :=
  match o.op with
  | .move x => match Nat.beq (flg o) 0 with
    | true => K (dup (ev q.E x)) (q.addr x) q
    | false => match Nat.beq (flg o) 2 with
      | true => K (dup (ev q.E x)) none q
      | false => asSl (flg o - 2) (ev q.E x) fun xs => K (.sl (flg o - 2) xs) none q
  | .assign x => K (ev q.E x) none (q.used x)
  | .pick c a b => asBool (ev q.E c) fun t => ifB t (K (dup (ev q.E a)) none q) (K (dup (ev q.E b)) none q)
  | .alloc e => match T e with
    | some t => (match Nat.beq (flg o) 0 with
      | true => K (.lbox t.zero) none q
      | false => newObj q.S (.obj e t.zero) fun id S => K (.ptr id 0) none { q with S := S })
    | none => none
  | .box e x => match T e with
    | some t => (match Nat.beq (cellsOf (dup (ev q.E x))).length t.lk.length && (cellsOf (dup (ev q.E x))).all one with
      | true => (match Nat.beq (flg o) 0 with
        | true => K (.lbox (cellsOf (dup (ev q.E x)))) none q
        | false => newObj q.S (.obj e (cellsOf (dup (ev q.E x)))) fun id S => K (.ptr id 0) none { q with S := S })
      | false => none)
    | none => none
  | .makeMap t none => match T t with
    | some t => (match t.kd, T t.key with
      | .map, some kt => newObj q.S (.mp kt.kd []) fun id S => K (.map id) none { q with S := S }
      | _, _ => none)
    | none => none
  | .makeSlice t x y => match T t with
    | some t => (match t.kd, T t.el, ev q.E x, ev q.E y with
      | .slice, some et, .int _ n, .int _ m => ifB (decide (n = m)) (mkN n t.ebytes fun n => newObj q.S (.obj t.el (zeros n et.zero)) fun id S => K (.osl id 0 t.esz n) none { q with S := S }) none
      | _, _, _, _ => none)
    | none => none
  | .makeFunc (.func f) first cs => (match first.toList with
    | [] => K (.fn f (cs.toList.map fun x => dup (ev q.E x))) none q
    | _ => none)
  | .nilCheck x => match Nat.beq (flg o) 0 with
    | false => asPtr (ev q.E x) fun id p => K (.ptr id p) none q
    | true => match q.addr x with
    | some p => K .any (some p) q
    | none => match ev q.E x with
      | .ptr id p => K (.ptr id p) none q
      | .cptr v n p => K (.cptr v n p) none q
      | _ => none
  | .lookup t m k ok => match T t with
    | some t => (match t.kd, T t.key, T t.el with
      | .map, some kt, some et => asMap (ev q.E m) fun id => mpAt q.S id kt.kd fun kvs => (match keyOk kt.kd (ev q.E k) with
        | true => decT et ((mapGet kvs (ev q.E k)).getD et.zv) fun v => K (lookR ok v (mapGet kvs (ev q.E k)).isSome) none q
        | false => none)
      | _, _, _ => none)
    | none => none
  | .mapUpdate t m k y => match T t with
    | some t => (match t.kd, T t.key with
      | .map, some kt => asMap (ev q.E m) fun id => mpAt q.S id kt.kd fun kvs => (match keyOk kt.kd (ev q.E k) with
        | true => K .any none { q with S := q.S.set id (.mp kt.kd (mapPut kvs (ev q.E k) (dup (ev q.E y)))) }
        | false => none)
      | _, _ => none)
    | none => none
  | .build t ps => match T t with
    | some t => (match t.kd with
      | .struct => (match fillP t.fs (ps.toList.map (·.1)) (ps.toList.map fun p => dup (ev q.E p.2)) t.zero with
        | some z => K (.agg z) none q
        | none => none)
      | _ => none)
    | none => none
  | .buildSlice t len ps => match T t with
    | some t => (match t.kd with
      | .slice => match Nat.beq (flg o) 0 with
       | false => (match len, ps.toList with
         | 0, [] => newObj q.S (.obj t.el []) fun id S => K (.osl id 0 t.esz 0) none { q with S := S }
         | _, _ => none)
       | true => (match partsInOrder 0 ps.toList && Nat.beq ps.toList.length len && Nat.ble (len * t.esz) 16777216 && Nat.ble len 16777216 &&
            ps.toList.all (fun p => Nat.beq (cellsOf (dup (ev q.E p.2))).length t.esz && (cellsOf (dup (ev q.E p.2))).all one) with
        | true => K (.own t.el t.esz (ps.toList.map fun p => dup (ev q.E p.2))) none q
        | false => none)
      | _ => none)
    | none => none
  | .load t x => match T t with
    | some t => (match Nat.beq (flg o) 0 with
     | false => asPtr (ev q.E x) fun id p => objAt q.S id fun ty xs => (match Nat.beq (flg o) 4 with
      | true => (match Nat.beq t.lk.length 1 && !(isAggK t.kd) with
        | true => ldRaw xs p fun v => K v none q
        | false => none)
      | false => match Nat.beq (flg o) 2, t.kd with
       | true, .slice => asOwn t.el t.esz (xs.getD p .any) fun ys => K (.own t.el t.esz ys) none { q with S := q.S.set id (ty (xs.set p (.sl t.esz ys))) }
       | true, _ => none
       | false, _ => ldO t xs p fun v => (match Nat.beq (flg o) 3, t.kd with
         | true, .ptr => asPtr v fun id p => K (.ptr id p) none q
         | true, .map => asMap v fun id => K (.map id) none q
         | true, _ => none
         | false, _ => K v none q))
     | true => match q.addr x with
      | some (d, o) => (match Nat.ble (o + t.lk.length) (boxAt q.E d).length && Nat.blt 0 t.lk.length && (isAggK t.kd || Nat.beq t.lk.length 1) with
        | true => K (part t (boxAt q.E d) o) none q
        | false => none)
      | none => match ev q.E x with
        | .cptr v n o => (match isAggK t.kd with
          | true => (match Nat.beq o 0 && Nat.beq n t.lk.length with
            | true => decT t v fun v => K v none q
            | false => ifB (Nat.ble (o + t.lk.length) n) (mat n v fun xs => decL t.lk xs o fun l => K (.agg l) none q) none)
          | false => (match Nat.blt o n with
            | true => decT t (leaf v o) fun v => K v none q
            | false => none))
        | _ => none)
    | none => none
  | .store t x y => match Nat.beq (flg o) 3 with
   | true => storeD T t x y q K
   | false => match T t with
    | some t => (match Nat.beq (flg o) 0 with
     | false => asPtr (ev q.E x) fun id p => objAt q.S id fun ty xs => (match Nat.beq (flg o) 2, ev q.E y with
       | true, .own e z ys => (match Nat.beq t.lk.length 1 with
         | true => stO xs p [.own e z ys] fun zs => K .any none { (q.used y) with S := q.S.set id (ty zs) }
         | false => none)
       | true, _ => none
       | false, _ => (match Nat.beq (cellsOf (dup (ev q.E y))).length t.lk.length && (cellsOf (dup (ev q.E y))).all one with
         | true => stO xs p (cellsOf (dup (ev q.E y))) fun zs => K .any none { q with S := q.S.set id (ty zs) }
         | false => none))
     | true => match q.addr x with
      | some (d, o) => (match Nat.ble (o + t.lk.length) (boxAt q.E d).length && Nat.blt 0 t.lk.length && Nat.beq (cellsOf (dup (ev q.E y))).length t.lk.length && (cellsOf (dup (ev q.E y))).all one with
        | true => K .any none { q with E := q.E.set d (.lbox (setFrom (boxAt q.E d) o (cellsOf (dup (ev q.E y))))) }
        | false => none)
      | none => none)
    | none => none
  | .binOp op t x y _ => match T t with
    | some t => binop t op (ev q.E x) (ev q.E y) fun v => K v none q
    | none => none
  | .unOp op _ x => match op with
    | .not => asBool (ev q.E x) fun b => K (.bool (!b)) none q
    | _ => none
  | .convert s t x => match T s, T t with
    | some s, some t => (match s.kd, t.kd with
      | .int a, .int b => asInt a (ev q.E x) fun n => K (.int b (b.wrap n)) none q
      | .str, .str => asStr (ev q.E x) fun s => K (.str s) none q
      | .slice, .str => (match (T s.el).map TI.kd with
        | some (.int .u8) => asSl 1 (ev q.E x) fun xs => strOf xs fun s => K (.str s) none q
        | _ => none)
      | .str, .slice => (match (T t.el).map TI.kd with
        | some (.int .u8) => asStr (ev q.E x) fun s => ifB (decide (s.size ≤ 9223372036854775807)) (K (.sl 1 (bytesL s)) none q) none
        | _ => none)
      | _, _ => none)
    | _, _ => none
  | .slice t x lo hi mx => match T t, mx with
    | some t, none => (match t.kd with
      | .str => asStr (ev q.E x) fun s => intOr q.E lo 0 fun l => intOr q.E hi s.size fun h => slStr s l h fun r => K (.str r) none q
      | .slice => (match Nat.beq (flg o) 0 with
        | true => asSl t.esz (ev q.E x) fun xs => intOr q.E lo 0 fun l => intOr q.E hi xs.length fun h => slL xs l h fun r => K (.sl t.esz r) none q
        | false => match lo, hi with
          | none, some h => asI (ev q.E h) fun m => slO t.esz (ev q.E x) m fun v => K v none q
          | _, _ => none)
      | _ => none)
    | _, _ => none
  | .fieldAddr t x i => match T t with
    | some t => (match t.fs[i]? with
      | some (o, _, _) => (match q.addr x with
        | some (d, p) => K .any (some (d, p + o)) q
        | none => match ev q.E x with
          | .cptr v n p => (match Nat.ble (p + o) n with
            | true => K (.cptr v n (p + o)) none q
            | false => none)
          | .ptr id p => K (.ptr id (p + o)) none q
          | _ => none)
      | none => none)
    | none => none
  | .field t x i => match T t with
    | some t => (match t.fs[i]? with
      | some (o, _, ft) => (match T ft, ev q.E x with
        | some ft, .agg xs => (match Nat.ble (o + ft.lk.length) xs.length && Nat.blt 0 ft.lk.length && (isAggK ft.kd || Nat.beq ft.lk.length 1) with
          | true => K (part ft xs o) none q
          | false => none)
        | _, _ => none)
      | none => none)
    | none => none
  | .indexAddr t x i => match T t with
    | some t => (match t.kd with
      | .slice => oslOr (ev q.E x) (fun id p z n => ifB (Nat.beq z t.esz) (asI (ev q.E i) fun m => idxN n m fun m => K (.ptr id (p + m * z)) none q) none)
        (match Nat.beq (flg o) 0 with
        | true => asSl t.esz (ev q.E x) fun xs => asI (ev q.E i) fun n => idxL xs n fun v => K (.cptr v t.esz 0) none q
        | false => none)
      | _ => none)
    | none => none
  | .index t x i => match T t with
    | some t => (match t.kd with
      | .str => asStr (ev q.E x) fun s => asI (ev q.E i) fun n => idxStr s n fun b => K (.int .u8 b) none q
      | _ => none)
    | none => none
  | .extract x i => match x, ev q.E x with
    | .tmp t, .tup vs => (match Nat.blt i vs.length with
      | true => (match Nat.beq (flg o) 0 with
        | true => K (vs.getD i .any) none { q with E := q.E.set t (.tup (vs.set i (dup (vs.getD i .any)))) }
        | false => K (dup (vs.getD i .any)) none q)
      | false => none)
    | _, _ => none
  | .call c => match c.callee with
    | .builtin b => (match Nat.beq (flg o) 0 with
      | true => callB T b c.argTypes c.args q K
      | false => callM T b c.argTypes c.args q K)
    | .value x => asFn (ev q.E x) fun f cs => C f ((takes c.args.toList q).1 ++ cs) q.S fun v S => K v none { (takes c.args.toList q).2 with S := S }
    | _ => none
  | _ => none

/-- Is an operation carried out? What was asked is known behind it. -/
noncomputable def wanted (ops : Array Oper) (q : Q) (o : Oper) (K : Bool → Q → Option R) : Option R :=
  match o.guard with
  | none => K true q
  | some (j, want) => match (ops[j]?).bind (·.dst) with
    | some d => (match q.E.getD d .any with
      | .bool b => ifB b (setK q.E d (.bool true) fun E => K want ⟨E, q.A, q.S⟩) (setK q.E d (.bool false) fun E => K (!want) ⟨E, q.A, q.S⟩)
      | .und => K false q
      | _ => none)
    | none => none

noncomputable def runOps (T : Nat → Option TI) (C : Nat → Hd R) (ops : Array Oper) : List Oper → Q → (Q → Option R) → Option R
  | [], q, K => K q
  | o :: os, q, K => wanted ops q o fun b q => match b with
    | true => lop T C o q fun v al q => q.putK o.dst v al fun q => runOps T C ops os q K
    | false => q.putK o.dst .und none fun q => runOps T C ops os q K

/-- The shape of a leaf; what it may be taken for. -/
inductive LS where
  | int (k : IntKind) | bool | str | sl (z : Nat) | own (e z : Nat) | raw | ptr | map | osl (z : Nat) | nilp | nilm | nilf | nili | nils
inductive SH where
  | lf (s : LS) | agg (l : List LS) | lbox (l : List LS) | fn (f : FuncId) (l : List LS)
def LS.ty : LS → Type
  | .int _ => Int
  | .bool => Bool
  | .str => ByteArray
  | .sl _ => List LV
  | .own _ _ => List LV
  | .raw => LV
  | .ptr => Nat × Nat
  | .map => Nat
  | .osl _ => Nat × Nat × Nat
  | _ => Unit
def LTys : List LS → Type
  | [] => Unit
  | s :: l => s.ty × LTys l
def SH.ty : SH → Type
  | .lf s => s.ty
  | .agg l => LTys l
  | .lbox l => LTys l
  | .fn _ l => LTys l
abbrev Mk := List (Option SH)
def Mk.ty : Mk → Type
  | [] => Unit
  | none :: m => Mk.ty m
  | some s :: m => s.ty × Mk.ty m
def LS.enc : (s : LS) → s.ty → LV
  | .int k, n => .int k n
  | .bool, b => .bool b
  | .str, s => .str s
  | .sl z, xs => .sl z xs
  | .own e z, xs => .own e z xs
  | .raw, v => v
  | .ptr, x => .ptr x.1 x.2
  | .map, id => .map id
  | .osl z, x => .osl x.1 x.2.1 z x.2.2
  | .nilp, _ => .nilp
  | .nilm, _ => .nilm
  | .nilf, _ => .nilf
  | .nili, _ => .nili
  | .nils, _ => .nilsl
def encL : (l : List LS) → LTys l → List LV
  | [], _ => []
  | s :: l, x => s.enc x.1 :: encL l x.2
def SH.enc : (s : SH) → s.ty → LV
  | .lf s, x => s.enc x
  | .agg l, x => .agg (encL l x)
  | .lbox l, x => .lbox (encL l x)
  | .fn f l, x => .fn f (encL l x)
def Mk.enc : (m : Mk) → m.ty → List LV
  | [], _ => []
  | none :: m, x => .any :: Mk.enc m x
  | some s :: m, x => s.enc x.1 :: Mk.enc m x.2
def LS.dec : (s : LS) → LV → Option s.ty
  | .int k, .int k' n => (match Nat.beq (ikN k') (ikN k) with | true => some n | false => none)
  | .bool, .bool b => some b
  | .str, .str s => some s
  | .sl z, .sl z' xs => (match Nat.beq z' z with | true => some xs | false => none)
  | .own e z, .own e' z' xs => (match Nat.beq e' e && Nat.beq z' z with | true => some xs | false => none)
  | .raw, v => some v
  | .ptr, .ptr id o => some (id, o)
  | .map, .map id => some id
  | .osl z, .osl id o z' n => (match Nat.beq z' z with | true => some (id, o, n) | false => none)
  | .nilp, .nilp => some ()
  | .nilm, .nilm => some ()
  | .nilf, .nilf => some ()
  | .nili, .nili => some ()
  | .nils, .nilsl => some ()
  | _, _ => none
def decLs : (l : List LS) → List LV → Option (LTys l)
  | [], [] => some ()
  | s :: l, v :: vs => (match s.dec v with
    | some x => (match decLs l vs with
      | some y => some (x, y)
      | none => none)
    | none => none)
  | _, _ => none
def SH.dec : (s : SH) → LV → Option s.ty
  | .lf s, v => s.dec v
  | .agg l, .agg vs => decLs l vs
  | .lbox l, .lbox vs => decLs l vs
  | .fn f l, .fn f' vs => (match Nat.beq f' f with | true => decLs l vs | false => none)
  | _, _ => none
def isAny : LV → Bool
  | .any => true
  | _ => false
def Mk.dec : (m : Mk) → List LV → Option m.ty
  | [], [] => some ()
  | none :: m, v :: vs => (match isAny v with | true => Mk.dec m vs | false => none)
  | some s :: m, v :: vs => (match s.dec v with
    | some x => (match Mk.dec m vs with
      | some y => some (x, y)
      | none => none)
    | none => none)
  | _, _ => none
/-- A value taken for one of a shape. -/
def LS.co : LS → LV → LV
  | .sl z, .nilsl => .sl z []
  | .sl _, .own _ z xs => .sl z xs
  | .sl _, .nsl z xs => .sl z xs
  | .own e z, .nilsl => .own e z []
  | _, v => v
def coL : List LS → List LV → List LV
  | _, [] => []
  | [], vs => vs
  | s :: l, v :: vs => s.co v :: coL l vs
def SH.co : SH → LV → LV
  | .lf s, v => s.co v
  | .agg l, .agg vs => .agg (coL l vs)
  | .lbox l, .lbox vs => .lbox (coL l vs)
  | _, v => v
def Mk.co : Mk → List LV → List LV
  | _, [] => []
  | [], _ :: vs => .any :: Mk.co [] vs
  | none :: m, _ :: vs => .any :: Mk.co m vs
  | some s :: m, v :: vs => s.co v :: Mk.co m vs
def Q.mask (m : Mk) (q : Q) : Q := { q with E := m.co q.E, A := List.replicate q.E.length none }
def Qm (m : Mk) (x : m.ty) (S : List LV) : Q := ⟨m.enc x, List.replicate m.length none, S⟩

/-- How a piece of code is to be gone through: a mask ahead; a drawn order; a proved piece. -/
inductive An (R : Type) where
  | auto
  | mask (m : Mk) (a : An R)
  | frz (t : Nat) (a : An R)
  | asp (t : Nat) (a : An R)
  | frr (t z : Nat) (a : An R)
  | own (tk : List (Nat × Nat))
  | drawn (tk : List (Nat × Nat)) (is : List Nat)
  | hide (t : Nat) (tk : List (Nat × Nat)) (is : List Nat)
  | quiet (tk : List (Nat × Nat)) (is : List Nat)
  | piece (h : Q → (LX → Q → Option R) → Option R)
  | seq (a b : An R)
  | cond (a b : An R)
  | block (a : An R)

noncomputable def lloop (B : Q → (LX → Q → Option R) → Option R) (m : Mk) : Nat → Q → (LX → Q → Option R) → Option R
  | 0, _, _ => none
  | n + 1, q, K => B q fun x q => match x with
    | .nrm => lloop B m n (q.mask m) K
    | x => K x q
/-- May an operation be taken ahead of others? -/
def stillB (o : Oper) : Bool := match o.op with
  | .move _ => true
  | .pick _ _ _ => true
  | .alloc _ => Nat.beq (flg o) 0
  | .box _ _ => Nat.beq (flg o) 0
  | .extract _ _ => !(Nat.beq (flg o) 0)
  | .build _ _ => true
  | .buildSlice _ _ _ => Nat.beq (flg o) 0
  | .load _ _ => Nat.beq (flg o) 0
  | .makeFunc _ _ _ => true
  | .nilCheck _ => true
  | .binOp _ _ _ _ _ => true
  | .unOp _ _ _ => true
  | .convert _ _ _ => true
  | .slice _ _ _ _ _ => true
  | .fieldAddr _ _ _ => true
  | .field _ _ _ => true
  | .indexAddr _ _ _ => true
  | .index _ _ _ => true
  | .call c => (match c.callee with
    | .builtin .len => Nat.beq (flg o) 0
    | .builtin .min => Nat.beq (flg o) 0
    | _ => false)
  | _ => false
/-- Operations that turn nothing but their own slot, the owners that they are handed, and the store. -/
def mildB (o : Oper) : Bool := match o.op with
  | .assign _ => true
  | .alloc _ => !(Nat.beq (flg o) 0)
  | .box _ _ => !(Nat.beq (flg o) 0)
  | .load _ _ => !(Nat.beq (flg o) 0)
  | .store _ _ _ => !(Nat.beq (flg o) 0)
  | .makeMap _ none => true
  | .buildSlice _ _ _ => !(Nat.beq (flg o) 0)
  | .makeSlice _ _ _ => true
  | .lookup _ _ _ _ => true
  | .mapUpdate _ _ _ _ => true
  | .call c => (match c.callee with
    | .builtin .append => true
    | .builtin .len => !(Nat.beq (flg o) 0)
    | .value _ => true
    | _ => false)
  | _ => false
def softB (o : Oper) : Bool := stillB o || mildB o
/-- May be taken ahead of others: a still one, or a handing on. -/
def takeB (o : Oper) : Bool := stillB o || match o.op with
  | .assign _ => true
  | _ => false
/-- Leaves the store as it is. -/
def calmB (o : Oper) : Bool := takeB o || match o.op with
  | .load _ _ => !(Nat.beq (flg o) 0) && !(Nat.beq (flg o) 2)
  | .store _ _ _ => Nat.beq (flg o) 3
  | .lookup _ _ _ _ => true
  | .call c => (match c.callee with
    | .builtin .len => !(Nat.beq (flg o) 0)
    | _ => false)
  | _ => false
def tmpsOf (xs : List Operand) : List Nat := xs.filterMap fun | .tmp t => some t | _ => none
/-- Whose owners are handed on. -/
def usedOf (o : Oper) : List Nat := match o.op with
  | .assign x => tmpsOf [x]
  | .store _ x y => (match Nat.beq (flg o) 3 with
    | true => tmpsOf [x]
    | false => (match Nat.beq (flg o) 2 with | true => tmpsOf [y] | false => []))
  | .call c => (match c.callee with | .builtin .len => [] | _ => tmpsOf o.op.operands.toList)
  | _ => []
/-- The slots that a region writes, or takes owners from. -/
def dall (ops : Array Oper) : List Nat := ops.toList.flatMap fun o => o.dst.toList ++ usedOf o
def okX (D : List Nat) (_ : LV) (al : Option (Nat × Nat)) : Bool := match al with | some (d, _) => !(D.contains d) | none => true
def startOk (D : List Nat) (q : Q) : Bool := q.A.all fun al => match al with | some (d, _) => !(D.contains d) | none => true
/-- A call that does not see an object of the store; it stays as it is. -/
def hidR (h : Nat) (ob : LV) (S : List LV) (K : List LV → Option R) : Option R := ifB (Nat.blt h S.length) (K (S.set h ob)) none
def hideC (h : Nat) (C : Nat → Hd R) : Nat → Hd R := fun f args S K => C f args (S.set h .any) fun v S' => hidR h (S.getD h .any) S' fun S' => K v S'
open Classical in
/-- A call that leaves the store as it is. -/
noncomputable def quiR (S S' : List LV) (K : List LV → Option R) : Option R := if S' = S then K S else none
noncomputable def quietC (C : Nat → Hd R) : Nat → Hd R := fun f args S K => C f args S fun v S' => quiR S S' fun S => K v S
/-- Where an object is hidden, loads from the store are from it. -/
def hidChk (hid : Option Nat) (o : Oper) (q : Q) (A : Option R) : Option R := match hid with
  | none => A
  | some h => match o.op with
    | .load _ x => (match Nat.beq (flg o) 0 with
      | true => A
      | false => asPtr (ev q.E x) fun id _ => ifB (Nat.beq id h) A none)
    | _ => A
noncomputable def runD (T : Nat → Option TI) (C : Nat → Hd R) (ops : Array Oper) (D : List Nat) (hid : Option Nat) : List Oper → Q → (Q → Option R) → Option R
  | [], q, K => K q
  | o :: os, q, K => wanted ops q o fun b q => match b with
    | true => hidChk hid o q (lop T C o q fun x al q => (match okX D x al && (softB o || startOk D q) with
      | true => q.putK o.dst x al fun q => runD T C ops D hid os q K
      | false => none))
    | false => q.putK o.dst .und none fun q => runD T C ops D hid os q K
/-- Copies by which an owner is handed on; variables and cells of the store. -/
def flag1 (b : Nat) (o : Oper) : Oper := match b with
  | 0 => o
  | b + 1 => (match o.op with
    | .move x => (match b with | 0 => { o with op := .assign x } | _ => { o with type := o.type + 1000000 * (b + 1) })
    | .alloc _ => { o with type := o.type + 1000000 * (b + 1) }
    | .box _ _ => { o with type := o.type + 1000000 * (b + 1) }
    | .load _ _ => { o with type := o.type + 1000000 * (b + 1) }
    | .store _ _ _ => { o with type := o.type + 1000000 * (b + 1) }
    | .extract _ _ => { o with type := o.type + 1000000 * (b + 1) }
    | .buildSlice _ _ _ => { o with type := o.type + 1000000 * (b + 1) }
    | .nilCheck _ => { o with type := o.type + 1000000 * (b + 1) }
    | .slice _ _ _ _ _ => { o with type := o.type + 1000000 * (b + 1) }
    | .indexAddr _ _ _ => { o with type := o.type + 1000000 * (b + 1) }
    | .call c => (match c.callee with
      | .builtin .len => { o with type := o.type + 1000000 * (b + 1) }
      | .builtin .append => { o with type := o.type + 1000000 * (b + 1) }
      | _ => o)
    | _ => o)
def flagAt : List (Nat × Nat) → Nat → Nat
  | [], _ => 0
  | (j, f) :: l, i => match Nat.beq j i with
    | true => f
    | false => flagAt l i
def flagL (tk : List (Nat × Nat)) : Nat → List Oper → List Oper
  | _, [] => []
  | i, o :: os => flag1 (flagAt tk i) o :: flagL tk (i + 1) os
def flagA (tk : List (Nat × Nat)) (ops : Array Oper) : Array Oper := (flagL tk 0 ops.toList).toArray
def opsAt (ops : List Oper) : List Nat → List Oper
  | [] => []
  | i :: is => match ops[i]? with
    | some o => o :: opsAt ops is
    | none => []

noncomputable def lexec (T : Nat → Option TI) (C : Nat → Hd R) : An R → Code → Q → (LX → Q → Option R) → Option R
  | .piece h, _, q, K => h q K
  | .mask m a, c, q, K => lexec T C a c (q.mask m) K
  | .frz t a, c, q, K => frzQ t q fun q => lexec T C a c q K
  | .frr t z a, c, q, K => frzO z (q.E.getD t .any) q.S fun xs S => setK q.E t (.sl z xs) fun E => lexec T C a c ⟨E, q.A, S⟩ K
  | .asp t a, c, q, K => asPtr (q.E.getD t .any) fun i o => setK q.E t (.ptr i o) fun E => lexec T C a c ⟨E, q.A, q.S⟩ K
  | .own tk, .region _ ops draw, q, K => (match draw with
    | false => runOps T C (flagA tk ops) (flagA tk ops).toList q fun q => K .nrm q
    | true => none)
  | .drawn tk is, .region _ ops _, q, K => (match startOk (dall (flagA tk ops)) q with
    | true => runD T C (flagA tk ops) (dall (flagA tk ops)) none (opsAt (flagA tk ops).toList is) q fun q => K .nrm q
    | false => none)
  | .quiet tk is, .region _ ops _, q, K => (match startOk (dall (flagA tk ops)) q with
    | true => runD T (quietC C) (flagA tk ops) (dall (flagA tk ops)) none (opsAt (flagA tk ops).toList is) q fun q => K .nrm q
    | false => none)
  | .hide t tk is, .region _ ops _, q, K => (match startOk (dall (flagA tk ops)) q with
    | true => asPtr (q.E.getD t .any) fun h _ => runD T (hideC h C) (flagA tk ops) (dall (flagA tk ops)) (some h) (opsAt (flagA tk ops).toList is) q fun q => K .nrm q
    | false => none)
  | .auto, c, q, K => match c with
    | .skip => K .nrm q
    | .region _ ops draw => (match draw with
      | false => runOps T C ops ops.toList q fun q => K .nrm q
      | true => none)
    | .exit id => K (.ext id) q
    | .ret => K .ret q
    | _ => none
  | .seq x y, .seq a b, q, K => lexec T C x a q fun e q => match e with
    | .nrm => lexec T C y b q K
    | e => K e q
  | .cond x y, .cond c a b, q, K => asBool (ev q.E c) fun t => ifB t (lexec T C x a q K) (lexec T C y b q K)
  | .block a, .block id c, q, K => lexec T C a c q fun x q => match x with
    | .nrm => K .nrm q
    | .ext i => ifB (Nat.beq i id) (K .nrm q) (K (.ext i) q)
    | .ret => K .ret q
  | _, _, _, _ => none
end
end Go.Lm
