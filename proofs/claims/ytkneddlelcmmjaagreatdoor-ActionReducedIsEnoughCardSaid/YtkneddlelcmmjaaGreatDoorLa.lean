/- Parts of the proof: LmA, LmB, LmC, LmD, LmE, LmE2, LmE3, LmE4, LmE5, LmE6, LmE7, LmE8, LmE9, LmEm. -/
import Derived.Calls
import Derived.LoopN
import Derived.KernelRfl
import Derived.Laws.World
import Derived.Laws.AppendOwn
import Derived.Deep.AppendSrc
import Derived.MapKept
import Derived.Laws.StructEq
import Derived.Laws.Entries
import Derived.Laws.Slices
import Derived.Laws.CopyRow
import Derived.Laws.Build
import Derived.Laws.Tables
import Derived.Laws.BytesString
set_option linter.unusedVariables false
set_option linter.unusedSimpArgs false
namespace Go.Lm
inductive KD where
 |int (k:IntKind)|bool|str|slice|struct|array|ptr|map|func|iface|oth
inductive LV where
 |int (k:IntKind) (n:Int)
 |bool (b:Bool)
 |str (s:ByteArray)
 |nilsl
 |sl (sz:Nat) (xs:List LV)
 |own (e sz:Nat) (xs:List LV)
 |nsl (sz:Nat) (xs:List LV)
 |cptr (v:LV) (n o:Nat)
 |ptr (id o:Nat)
 |nilp
 |map (id:Nat)
 |nilm
 |fn (f:FuncId) (caps:List LV)
 |nilf
 |nili
 |agg (xs:List LV)
 |tup (xs:List LV)
 |lbox (xs:List LV)
 |mp (kd:KD) (kvs:List (LV×LV))
 |obj (t:Nat) (xs:List LV)
 |vec (t:Nat) (xs:List LV)
 |osl (id o sz n:Nat)
 |glob (k:Nat) (ob:Obj)
 |any
 |und
 deriving Inhabited
def dupL:LV→LV
 | .own _ sz xs=>.sl sz xs
 | .lbox _=>.any
 | .mp _ _=>.any
 | .obj _ _=>.any
 | .vec _ _=>.any
 | .glob _ _=>.any
 | .agg _=>.any
 | .tup _=>.any
 |v=>v
def dup:LV→LV
 | .own _ sz xs=>.sl sz xs
 | .agg xs=>.agg (xs.map dupL)
 | .lbox _=>.any
 | .mp _ _=>.any
 | .obj _ _=>.any
 | .vec _ _=>.any
 | .glob _ _=>.any
 | .tup _=>.any
 |v=>v
def leaf:LV→Nat→LV
 | .agg xs,j=>xs.getD j .any
 |v,0=>v
 |_,_+1=>.any
def cellsOf:LV→List LV
 | .agg xs=>xs
 |v=>[v]
def one:LV→Bool
 | .any=>false
 | .und=>false
 | .agg _=>false
 | .tup _=>false
 | .lbox _=>false
 | .mp _ _=>false
 | .obj _ _=>false
 | .vec _ _=>false
 | .glob _ _=>false
 |_=>true
inductive LK where
 |int (k:IntKind)|bool|str|sl (sz:Nat)|ptr|map|fn|oth
structure TI where
 kd:KD
 lk:List LK
 zero:List LV
 fs:List (Nat×Nat×TypeId):=[]
 esz:Nat:=0
 ebytes:Nat:=0
 el:TypeId:=0
 key:TypeId:=0
 len:Nat:=0
 eq:Option (List LK):=none
 zv:LV:=.any
inductive LX where
 |nrm|ext (id:Nat)|ret
structure Q where
 E:List LV
 A:List (Option (Nat×Nat))
 S:List LV
section
variable {R:Type}
def ikN:IntKind→Nat
 | .i8=>0 | .i16=>1 | .i32=>2 | .i64=>3 | .u8=>4 | .u16=>5 | .u32=>6 | .u64=>7
def ifB (c:Bool) (t e:Option R):Option R:=match c with|true=>t|false=>e
def asInt (k:IntKind) (v:LV) (K:Int→Option R):Option R:=match v with
 | .int k' n=>ifB (Nat.beq (ikN k') (ikN k)) (K n) none
 |_=>none
def asBool (v:LV) (K:Bool→Option R):Option R:=match v with | .bool b=>K b|_=>none
def asStr (v:LV) (K:ByteArray→Option R):Option R:=match v with | .str b=>K b|_=>none
def asSl (sz:Nat) (v:LV) (K:List LV→Option R):Option R:=match v with
 | .sl z xs=>ifB (Nat.beq z sz) (K xs) none
 | .own _ z xs=>ifB (Nat.beq z sz) (K xs) none
 | .nsl z xs=>ifB (Nat.beq z sz) (K xs) none
 | .nilsl=>K []
 |_=>none
abbrev fnB:Nat:=1000000
def funV (f:Nat):Nat:=match Nat.blt f fnB with
 |true=>f
 |false=>f-fnB
def argsV (f:Nat) (as cs:List LV):List LV:=match Nat.blt f fnB with
 |true=>as++cs
 |false=>cs++as
def asFn (v:LV) (K:FuncId→List LV→Option R):Option R:=match v with | .fn f cs=>K f cs|_=>none
def asMap (v:LV) (K:Nat→Option R):Option R:=match v with | .map id=>K id|_=>none
def asPtr (v:LV) (K:Nat→Nat→Option R):Option R:=match v with | .ptr id o=>K id o|_=>none
def mat (n:Nat) (v:LV) (K:List LV→Option R):Option R:=match v with
 | .agg xs=>ifB (Nat.beq xs.length n) (K xs) none
 |_=>none
def dec (l:LK) (v:LV) (K:LV→Option R):Option R:=match l with
 | .int k=>asInt k v fun n=>K (.int k n)
 | .bool=>asBool v fun b=>K (.bool b)
 | .str=>asStr v fun s=>K (.str s)
 | .sl z=>asSl z v fun xs=>K (.sl z xs)
 | .ptr=>K v
 | .map=>K v
 | .fn=>K v
 | .oth=>K v
def decL:List LK→List LV→Nat→(List LV→Option R)→Option R
 |[],_,_,K=>K []
 |l::ls,xs,i,K=>dec l (xs.getD i .any) fun v=>decL ls xs (i+1) fun r=>K (v::r)
def decT (t:TI) (v:LV) (K:LV→Option R):Option R:=match t.kd with
 | .struct | .array=>mat t.lk.length v fun xs=>decL t.lk xs 0 fun l=>K (.agg l)
 |_=>match t.lk with
  |[l]=>dec l v K
  |_=>none
def bt (s:ByteArray) (i:Int):Int:=if h:i.toNat<s.size then ((s[i.toNat]'h).toNat:Int) else 0
def idxStr (s:ByteArray) (i:Int) (K:Int→Option R):Option R:=ifB (decide (0≤i∧i<s.size)) (K (bt s i)) none
def idxL (xs:List LV) (i:Int) (K:LV→Option R):Option R:=ifB (decide (0≤i∧i<xs.length)) (K (xs.getD i.toNat .any)) none
def slStr (s:ByteArray) (lo hi:Int) (K:ByteArray→Option R):Option R:=ifB (decide (0≤lo∧lo≤hi∧hi≤s.size)) (K (s.extract lo.toNat hi.toNat)) none
def slL (xs:List LV) (lo hi:Int) (K:List LV→Option R):Option R:=ifB (decide (0≤lo∧lo≤hi∧hi≤xs.length)) (K ((xs.take hi.toNat).drop lo.toNat)) none
def app (bytes:Nat) (ys xs:List LV) (K:List LV→Option R):Option R:=ifB (decide ((ys.length+xs.length)*bytes≤140737488355328∧ys.length+xs.length≤9223372036854775807)) (K (ys++xs)) none
def catStr (a b:ByteArray) (K:ByteArray→Option R):Option R:=ifB (decide (a.size+b.size≤9223372036854775807)) (K (a++b)) none
def bytesL (s:ByteArray):List LV:=s.data.toList.map fun b=>.int .u8 b.toNat
def strL:List LV→Option (List UInt8)
 |[]=>some []
 | .int .u8 n::xs=>(strL xs).map (UInt8.ofNat n.toNat::·)
 |_::_=>none
def strOf (xs:List LV) (K:ByteArray→Option R):Option R:=match strL xs with|some l=>K ⟨l.toArray⟩|none=>none
def ofVal:Value→LV
 | .int k n=>.int k n
 | .bool b=>.bool b
 | .string s=>.str s
 | .slice none 0 0=>.nilsl
 | .pointer none=>.nilp
 | .map none=>.nilm
 | .nilFunc=>.nilf
 | .nilIface=>.nili
 |_=>.any
def ev (E:List LV):Operand→LV
 | .tmp t=>E.getD t .any
 | .const v=>match v with
  | .agg cs=>.agg (cs.toList.map ofVal)
  |v=>ofVal v
 | .func f=>match Nat.blt f fnB with
  |true=>.fn f []
  |false=>.any
 | .global _=>.any
def asI (v:LV) (K:Int→Option R):Option R:=match v with | .int _ n=>K n|_=>none
def bitI (op:BinOp) (k:IntKind) (a b:Int):Int:=match op with
 | .and=>k.wrap (BitVec.ofInt k.bits a &&& BitVec.ofInt k.bits b).toNat
 | .or=>k.wrap (BitVec.ofInt k.bits a ||| BitVec.ofInt k.bits b).toNat
 | .xor=>k.wrap (BitVec.ofInt k.bits a ^^^ BitVec.ofInt k.bits b).toNat
 |_=>k.wrap (BitVec.ofInt k.bits a &&& ~~~BitVec.ofInt k.bits b).toNat
def isShift:BinOp→Bool
 | .shl | .shr=>true
 |_=>false
def shI (op:BinOp) (k:IntKind) (a b:Int):Int:=match op with
 | .shl=>k.wrap (a*2 ^ (min b.toNat k.bits))
 |_=>a.fdiv (2 ^ (min b.toNat k.bits))
def strEq (a b:ByteArray):Bool:=a.toList==b.toList
def eqLs:List LK→List LV→List LV→(Bool→Option R)→Option R
 |[],[],[],K=>K true
 | .int k::ls,x::xs,y::ys,K=>asInt k x fun a=>asInt k y fun b=>eqLs ls xs ys fun r=>K (a==b&&r)
 | .bool::ls,x::xs,y::ys,K=>asBool x fun a=>asBool y fun b=>eqLs ls xs ys fun r=>K (a==b&&r)
 | .str::ls,x::xs,y::ys,K=>asStr x fun a=>asStr y fun b=>eqLs ls xs ys fun r=>K (strEq a b&&r)
 |_,_,_,_=>none
def isNil (v:LV) (K:Bool→Option R):Option R:=match v with
 | .nilsl=>K true
 | .nsl _ _=>K false
 | .sl _ (_::_)=>K false
 | .own _ _ (_::_)=>K false
 | .osl _ _ _ _=>K false
 |_=>none
def isNilP (v:LV) (K:Bool→Option R):Option R:=match v with
 | .nilp=>K true
 | .ptr _ _=>K false
 | .cptr _ _ _=>K false
 |_=>none
def intBin (op:BinOp) (k:IntKind) (a b:Int) (K:LV→Option R):Option R :=
 match op with
 | .add=>K (.int k (k.wrap (a+b)))
 | .sub=>K (.int k (k.wrap (a-b)))
 | .mul=>K (.int k (k.wrap (a*b)))
 | .eql=>K (.bool (a==b))
 | .neq=>K (.bool (a != b))
 | .lss=>K (.bool (decide (a<b)))
 | .leq=>K (.bool (decide (a≤b)))
 | .gtr=>K (.bool (decide (a>b)))
 | .geq=>K (.bool (decide (a≥b)))
 | .quo=>ifB (decide (b=0)) none (K (.int k (k.wrap (a.tdiv b))))
 | .rem=>ifB (decide (b=0)) none (K (.int k (a.tmod b)))
 | .and | .or | .xor | .andNot=>K (.int k (bitI op k a b))
 |_=>none
def strLt (a b:ByteArray):Bool:=Op.bytesLess a.toList b.toList
def strBin (op:BinOp) (a b:ByteArray) (K:LV→Option R):Option R :=
 match op with
 | .add=>catStr a b fun s=>K (.str s)
 | .eql=>K (.bool (strEq a b))
 | .neq=>K (.bool (!(strEq a b)))
 | .lss=>K (.bool (strLt a b))
 | .leq=>K (.bool (strLt a b||strEq a b))
 | .gtr=>K (.bool (!(strLt a b||strEq a b)))
 | .geq=>K (.bool (!(strLt a b)))
 |_=>none
def boolBin (op:BinOp) (a b:Bool) (K:LV→Option R):Option R :=
 match op with
 | .eql=>K (.bool (a==b))
 | .neq=>K (.bool (!(a==b)))
 |_=>none
def binop (t:TI) (op:BinOp) (x y:LV) (K:LV→Option R):Option R :=
 match t.kd with
 | .int k=>(match isShift op with
  |true=>asInt k x fun a=>asI y fun b=>ifB (decide (b<0)) none (K (.int k (shI op k a b)))
  |false=>asInt k x fun a=>asInt k y fun b=>intBin op k a b K)
 | .str=>asStr x fun a=>asStr y fun b=>strBin op a b K
 | .bool=>asBool x fun a=>asBool y fun b=>boolBin op a b K
 | .struct=>(match t.eq with
  |some ls=>mat ls.length x fun xs=>mat ls.length y fun ys=>eqLs ls xs ys fun r=>boolBin op r true K
  |none=>none)
 | .slice=>(match y with
  | .nilsl=>isNil x fun r=>boolBin op r true K
  |_=>none)
 | .ptr=>(match y with
  | .nilp=>isNilP x fun r=>boolBin op r true K
  |_=>none)
 |_=>none
def clearA (d:Nat):List (Option (Nat×Nat))→List (Option (Nat×Nat))
 |[]=>[]
 |some (e,o)::A=>(match Nat.beq e d with|true=>none|false=>some (e,o))::clearA d A
 |none::A=>none::clearA d A
def alOk (d:Nat):Option (Nat×Nat)→Option (Nat×Nat)
 |some (e,o)=>match Nat.beq e d with
  |true=>none
  |false=>some (e,o)
 |none=>none
def Q.put (q:Q) (d:Option Tmp) (v:LV) (al:Option (Nat×Nat)):Q:=match d with
 |some d=>{ q with E:=q.E.set d v,A:=(clearA d q.A).set d (alOk d al) }
 |none=>q
noncomputable def setK {α β:Type} (l:List α):Nat→α→(List α→β)→β :=
 List.rec (motive:=fun _=>Nat→α→(List α→β)→β) (fun _ _ k=>k []) (fun h t ih n v k=>Nat.rec (motive:=fun _=>β) (k (v::t)) (fun n _=>ih n v fun t'=>k (h::t')) n) l
theorem setK_eq {α β:Type}:∀(l:List α) (n:Nat) (v:α) (k:List α→β),setK l n v k=k (l.set n v)
 |[],_,_,_=>rfl
 |_::_,0,_,_=>rfl
 |h::t,n+1,v,k=>setK_eq t n v fun t'=>k (h::t')
noncomputable def Q.putK {β:Type} (q:Q) (d:Option Tmp) (v:LV) (al:Option (Nat×Nat)) (K:Q→β):β:=match d with
 |some d=>setK q.E d v fun E=>K ⟨E,(clearA d q.A).set d (alOk d al),q.S⟩
 |none=>K q
theorem Q.putK_eq {β:Type} (q:Q) (d:Option Tmp) (v:LV) (al:Option (Nat×Nat)) (K:Q→β):q.putK d v al K=K (q.put d v al):=by
 cases d with
 |none=>rfl
 |some d=>exact setK_eq _ _ _ _
def Q.used (q:Q):Operand→Q
 | .tmp t=>{ q with E:=q.E.set t (dup (q.E.getD t .any)) }
 |_=>q
def Q.addr (q:Q):Operand→Option (Nat×Nat)
 | .tmp t=>match q.A.getD t none with
  |some p=>some p
  |none=>match q.E.getD t .any with
   | .lbox _=>some (t,0)
   |_=>none
 |_=>none
def boxAt (E:List LV) (d:Nat):List LV:=match E.getD d .any with | .lbox xs=>xs|_=>[]
def setFrom:List LV→Nat→List LV→List LV
 |xs,_,[]=>xs
 |xs,o,v::vs=>setFrom (xs.set o v) (o+1) vs
def isAggK:KD→Bool
 | .struct | .array=>true
 |_=>false
def part (t:TI) (xs:List LV) (o:Nat):LV:=match isAggK t.kd with
 |true=>.agg ((xs.drop o).take t.lk.length)
 |false=>xs.getD o .any
def takes:List Operand→Q→List LV×Q
 |[],q=>([],q)
 |x::xs,q=>(ev q.E x::(takes xs (q.used x)).1,(takes xs (q.used x)).2)
def fillP (fs:List (Nat×Nat×TypeId)):List Nat→List LV→List LV→Option (List LV)
 |[],_,z=>some z
 |i::is,vs,z=>match fs[i]?,vs with
  |some (o,n,_),v::vs=>(match Nat.beq (cellsOf v).length n&&(cellsOf v).all one&&Nat.ble (o+n) z.length with
   |true=>fillP fs is vs (setFrom z o (cellsOf v))
   |false=>none)
  |_,_=>none
def partsInOrder:Nat→List (Nat×Operand)→Bool
 |_,[]=>true
 |n,(i,_)::ps=>Nat.beq i n&&partsInOrder (n+1) ps
def rigid:LV→Option Value
 | .int k n=>some (.int k n)
 | .bool b=>some (.bool b)
 | .str s=>some (.string s)
 |_=>none
def keyOk:KD→LV→Bool
 | .int k,.int k' _=>Nat.beq (ikN k') (ikN k)
 | .bool,.bool _=>true
 | .str,.str _=>true
 |_,_=>false
def keyEq:LV→LV→Bool
 | .int _ a,.int _ b=>decide (a=b)
 | .bool a,.bool b=>a==b
 | .str a,.str b=>decide (a=b)
 |_,_=>false
def mapGet:List (LV×LV)→LV→Option LV
 |[],_=>none
 | (k,v)::l,x=>match keyEq k x with
  |true=>some v
  |false=>mapGet l x
def mapPut:List (LV×LV)→LV→LV→List (LV×LV)
 |[],x,y=>[(x,y)]
 | (k,v)::l,x,y=>match keyEq k x with
  |true=>(k,y)::l
  |false=>(k,v)::mapPut l x y
def kdN:KD→Nat
 | .int k=>ikN k
 | .bool=>10
 | .str=>11
 |_=>12
def mpAt (S:List LV) (id:Nat) (kd:KD) (K:List (LV×LV)→Option R):Option R:=match S.getD id .any with
 | .mp kd' kvs=>ifB (Nat.beq (kdN kd') (kdN kd)&&Nat.blt (kdN kd) 12) (K kvs) none
 |_=>none
def objAt (S:List LV) (id:Nat) (K:(List LV→LV)→List LV→Option R):Option R:=match S.getD id .any with
 | .obj t xs=>K (.obj t) xs
 | .vec t xs=>K (.vec t) xs
 |_=>none
def newObj (S:List LV) (x:LV) (K:Nat→List LV→Option R):Option R:=K S.length (S++[x])
def ldL (l:LK) (xs:List LV) (p:Nat) (K:LV→Option R):Option R:=ifB (Nat.blt p xs.length) (dec l (dupL (xs.getD p .any)) K) none
def ldO (t:TI) (xs:List LV) (p:Nat) (K:LV→Option R):Option R:=match isAggK t.kd with
 |true=>ifB (Nat.ble (p+t.lk.length) xs.length) (decL t.lk (xs.map dupL) p fun l=>K (.agg l)) none
 |false=>match t.lk with
  |[l]=>ldL l xs p K
  |_=>none
def asOwn (e z:Nat) (v:LV) (K:List LV→Option R):Option R:=match v with
 | .own e' z' xs=>ifB (Nat.beq e' e&&Nat.beq z' z) (K xs) none
 | .nilsl=>K []
 |_=>none
def stO (xs:List LV) (p:Nat) (cs:List LV) (K:List LV→Option R):Option R:=ifB (Nat.ble (p+cs.length) xs.length) (K (setFrom xs p cs)) none
def ldInt (k:IntKind) (xs:List LV) (p:Nat) (K:Int→Option R):Option R:=ifB (Nat.blt p xs.length) (asInt k (dupL (xs.getD p .any)) K) none
def ldStr (xs:List LV) (p:Nat) (K:ByteArray→Option R):Option R:=ifB (Nat.blt p xs.length) (asStr (dupL (xs.getD p .any)) K) none
def ldSl (z:Nat) (xs:List LV) (p:Nat) (K:List LV→Option R):Option R:=ifB (Nat.blt p xs.length) (asSl z (dupL (xs.getD p .any)) K) none
def ldRaw (xs:List LV) (p:Nat) (K:LV→Option R):Option R:=ifB (Nat.blt p xs.length) (K (dupL (xs.getD p .any))) none
def setS (S:List LV) (K:List LV→Option R):Option R:=K S
def zeros (n:Nat) (zs:List LV):List LV:=(List.replicate n zs).flatten
def mkN (n:Int) (bytes:Nat) (K:Nat→Option R):Option R:=ifB (decide (0≤n∧bytes*n≤140737488355328∧n≤9223372036854775807)) (K n.toNat) none
def idxN (n:Nat) (i:Int) (K:Nat→Option R):Option R:=ifB (decide (0≤i∧i<n)) (K i.toNat) none
def chunks (z n:Nat) (xs:List LV):List LV:=match Nat.beq z 1 with
 |true=>xs.map dupL
 |false=>(List.range n).map fun i=>.agg (((xs.drop (i*z)).take z).map dupL)
def frzQ (t:Nat) (q:Q) (K:Q→Option R):Option R:=match q.E.getD t .any with
 | .osl id p z n=>objAt q.S id fun ty xs=>ifB (Nat.beq p 0&&Nat.beq (n*z) xs.length&&Nat.blt 0 z&&Nat.ble n 9223372036854775807) (K { q with E:=q.E.set t (.sl z (chunks z n xs)),S:=q.S.set id .any }) none
 |_=>none
def frzO (z:Nat) (v:LV) (S:List LV) (K:List LV→List LV→Option R):Option R:=match v with
 | .osl id p z' n=>objAt S id fun _ xs=>ifB (Nat.beq z' z&&(Nat.beq p 0&&Nat.beq (n*z) xs.length&&Nat.blt 0 z&&Nat.ble n 9223372036854775807)) (K (chunks z n xs) (S.set id .any)) none
 | .nilsl=>K [] S
 |_=>none
def oslOr (v:LV) (A:Nat→Nat→Nat→Nat→Option R) (B:Option R):Option R:=match v with
 | .osl id p z n=>A id p z n
 |_=>B
def flg (o:Oper):Nat:=o.type / 1000000
def lookR (ok:Bool) (y:LV) (b:Bool):LV:=match ok with
 |false=>y
 |true=>.tup [y,.bool b]
def lenO (v:LV) (K:Nat→Option R):Option R:=match v with
 | .osl _ _ _ n=>K n
 | .nilsl=>K 0
 |_=>none
def slO (z:Nat) (v:LV) (m:Int) (K:LV→Option R):Option R:=match v with
 | .osl id p z' n=>ifB (Nat.beq z' z&&decide (0≤m∧m≤n)) (K (.osl id p z m.toNat)) none
 | .nilsl=>ifB (decide (m=0)) (K .nilsl) none
 |_=>none
def flatC (z:Nat) (ys:List LV):List LV:=match Nat.beq z 1 with
 |true=>ys.map fun v=>leaf v 0
 |false=>ys.flatMap fun v=>(List.range z).map (leaf v)
def cellsAt (S:List LV) (id:Nat) (K:Nat→List LV→Option R):Option R:=match S.getD id .any with
 | .obj t xs=>K t xs
 | .vec t xs=>K t xs
 |_=>none
def fitsB (n m bytes:Nat):Bool:=decide ((n+m)*bytes≤140737488355328∧n+m≤9223372036854775807)
def appO (e z bytes:Nat) (S:List LV) (v:LV) (ys:List LV) (K:Nat→Nat→List LV→Option R):Option R:=match v with
 | .osl id p z' n=>cellsAt S id fun ty xs=>ifB (Nat.beq ty e&&Nat.beq p 0&&Nat.beq z' z&&Nat.blt 0 z&&Nat.ble (n*z) xs.length&&fitsB n ys.length bytes)
   (K S.length (n+ys.length) (S.set id .any++[.vec e (xs.take (n*z)++flatC z ys)])) none
 | .nilsl=>ifB (Nat.blt 0 z&&Nat.blt 0 ys.length&&fitsB 0 ys.length bytes) (K S.length ys.length (S++[.vec e (flatC z ys)])) none
 |_=>none
abbrev Hd (R:Type):=List LV→List LV→(LV→List LV→Option R)→Option R
def intOr (E:List LV) (x:Option Operand) (d:Int) (K:Int→Option R):Option R:=match x with
 |some x=>asI (ev E x) K
 |none=>K d
def srcL (k:KD) (ez z:Nat) (y:LV) (K:List LV→Option R):Option R:=match k with
 | .slice=>ifB (Nat.beq ez z) (asSl z y K) none
 | .str=>ifB (Nat.beq z 1) (asStr y fun s=>K (bytesL s)) none
 |_=>none
def minI (a b:Int):Int:=if b<a then b else a
def callB (T:Nat→Option TI) (b:Builtin) (at_:Array TypeId) (args:Array Operand) (q:Q) (K:LV→Option (Nat×Nat)→Q→Option R):Option R :=
 match b,at_.toList,args.toList with
 | .len,[t],[x]=>(match T t with
  |some t=>(match t.kd with
   | .str=>asStr (ev q.E x) fun s=>K (.int .i64 s.size) none q
   | .slice=>oslOr (ev q.E x) (fun _ _ _ n=>K (.int .i64 n) none q) (asSl t.esz (ev q.E x) fun xs=>K (.int .i64 xs.length) none q)
   |_=>none)
  |none=>none)
 | .append,[t,t'],[x,y]=>(match T t,T t' with
  |some t,some t'=>(match t.kd with
   | .slice=>(match ev q.E x with
    | .own e z ys=>ifB (Nat.beq e t.el&&Nat.beq z t.esz) (srcL t'.kd t'.esz t.esz (ev q.E y) fun xs=>app t.ebytes ys xs fun zs=>K (.own t.el t.esz zs) none (q.used x)) none
    | .nilsl=>srcL t'.kd t'.esz t.esz (ev q.E y) fun xs=>app t.ebytes [] xs fun zs=>K (.own t.el t.esz zs) none (q.used x)
    |_=>none)
   |_=>none)
  |_,_=>none)
 | .min,_,[x,y]=>(match ev q.E x,ev q.E y with
  | .int k a,.int _ b=>K (.int k (minI a b)) none q
  |_,_=>none)
 |_,_,_=>none
def callM (T:Nat→Option TI) (b:Builtin) (at_:Array TypeId) (args:Array Operand) (q:Q) (K:LV→Option (Nat×Nat)→Q→Option R):Option R :=
 match b,at_.toList,args.toList with
 | .len,[t],[x]=>(match T t with
  |some t=>(match t.kd,T t.key with
   | .map,some kt=>asMap (ev q.E x) fun id=>mpAt q.S id kt.kd fun kvs=>K (.int .i64 kvs.length) none q
   | .slice,_=>lenO (ev q.E x) fun n=>K (.int .i64 n) none q
   |_,_=>none)
  |none=>none)
 | .append,[t,t'],[x,y]=>(match T t,T t' with
  |some t,some t'=>(match t.kd with
   | .slice=>srcL t'.kd t'.esz t.esz (ev q.E y) fun ys=>appO t.el t.esz t.ebytes q.S (ev q.E x) ys fun i n S=>K (.osl i 0 t.esz n) none { q with S:=S }
   |_=>none)
  |_,_=>none)
 | .copy,[t,t'],[x,y]=>(match T t,T t' with
  |some t,some t'=>(match t.kd with
   | .slice=>oslOr (ev q.E x) (fun id p z n=>ifB (Nat.beq z 1&&Nat.beq t.esz 1) (srcL t'.kd t'.esz 1 (ev q.E y) fun ys=>ifB (Nat.ble ys.length n) (objAt q.S id fun ty xs=>stO xs p (flatC 1 ys) fun zs=>K (.int .i64 ys.length) none { q with S:=q.S.set id (ty zs) }) none) none) none
   |_=>none)
  |_,_=>none)
 |_,_,_=>none
def storeD (T:Nat→Option TI) (t:TypeId) (x y:Operand) (q:Q) (K:LV→Option (Nat×Nat)→Q→Option R):Option R:=match T t,x with
 |some t,.tmp d=>(match q.A.getD d none,q.E.getD d .any with
  |none,.lbox xs=>(match Nat.ble (0+t.lk.length) xs.length&&Nat.blt 0 t.lk.length&&Nat.beq (cellsOf (dup (ev q.E y))).length t.lk.length&&(cellsOf (dup (ev q.E y))).all one with
   |true=>K .any none { q with E:=q.E.set d (.lbox (setFrom xs 0 (cellsOf (dup (ev q.E y))))) }
   |false=>none)
  |_,_=>none)
 |_,_=>none
def lop (T:Nat→Option TI) (C:Nat→Hd R) (o:Oper) (q:Q) (K:LV→Option (Nat×Nat)→Q→Option R):Option R :=
 match o.op with
 | .move x=>match Nat.beq (flg o) 0 with
  |true=>K (dup (ev q.E x)) (q.addr x) q
  |false=>match Nat.beq (flg o) 2 with
   |true=>K (dup (ev q.E x)) none q
   |false=>asSl (flg o-2) (ev q.E x) fun xs=>K (.sl (flg o-2) xs) none q
 | .assign x=>K (ev q.E x) none (q.used x)
 | .pick c a b=>asBool (ev q.E c) fun t=>ifB t (K (dup (ev q.E a)) none q) (K (dup (ev q.E b)) none q)
 | .alloc e=>match T e with
  |some t=>(match Nat.beq (flg o) 0 with
   |true=>K (.lbox t.zero) none q
   |false=>newObj q.S (.obj e t.zero) fun id S=>K (.ptr id 0) none { q with S:=S })
  |none=>none
 | .box e x=>match T e with
  |some t=>(match Nat.beq (cellsOf (dup (ev q.E x))).length t.lk.length&&(cellsOf (dup (ev q.E x))).all one with
   |true=>(match Nat.beq (flg o) 0 with
    |true=>K (.lbox (cellsOf (dup (ev q.E x)))) none q
    |false=>newObj q.S (.obj e (cellsOf (dup (ev q.E x)))) fun id S=>K (.ptr id 0) none { q with S:=S })
   |false=>none)
  |none=>none
 | .makeMap t none=>match T t with
  |some t=>(match t.kd,T t.key with
   | .map,some kt=>newObj q.S (.mp kt.kd []) fun id S=>K (.map id) none { q with S:=S }
   |_,_=>none)
  |none=>none
 | .makeSlice t x y=>match T t with
  |some t=>(match t.kd,T t.el,ev q.E x,ev q.E y with
   | .slice,some et,.int _ n,.int _ m=>ifB (decide (n=m)) (mkN n t.ebytes fun n=>newObj q.S (.obj t.el (zeros n et.zero)) fun id S=>K (.osl id 0 t.esz n) none { q with S:=S }) none
   |_,_,_,_=>none)
  |none=>none
 | .makeFunc (.func f) first cs=>(match first.toList with
  |[]=>(match Nat.blt f fnB with
   |true=>K (.fn f (cs.toList.map fun x=>dup (ev q.E x))) none q
   |false=>none)
  |x::l=>(match cs.toList with
   |[]=>K (.fn (f+fnB) ((x::l).map fun x=>dup (ev q.E x))) none q
   |_=>none))
 | .nilCheck x=>match Nat.beq (flg o) 0 with
  |false=>asPtr (ev q.E x) fun id p=>K (.ptr id p) none q
  |true=>match q.addr x with
  |some p=>K .any (some p) q
  |none=>match ev q.E x with
   | .ptr id p=>K (.ptr id p) none q
   | .cptr v n p=>K (.cptr v n p) none q
   |_=>none
 | .lookup t m k ok=>match T t with
  |some t=>(match t.kd,T t.key,T t.el with
   | .map,some kt,some et=>asMap (ev q.E m) fun id=>mpAt q.S id kt.kd fun kvs=>(match keyOk kt.kd (ev q.E k) with
    |true=>decT et ((mapGet kvs (ev q.E k)).getD et.zv) fun v=>K (lookR ok v (mapGet kvs (ev q.E k)).isSome) none q
    |false=>none)
   |_,_,_=>none)
  |none=>none
 | .mapUpdate t m k y=>match T t with
  |some t=>(match t.kd,T t.key with
   | .map,some kt=>asMap (ev q.E m) fun id=>mpAt q.S id kt.kd fun kvs=>(match keyOk kt.kd (ev q.E k) with
    |true=>K .any none { q with S:=q.S.set id (.mp kt.kd (mapPut kvs (ev q.E k) (dup (ev q.E y)))) }
    |false=>none)
   |_,_=>none)
  |none=>none
 | .build t ps=>match T t with
  |some t=>(match t.kd with
   | .struct=>(match fillP t.fs (ps.toList.map (·.1)) (ps.toList.map fun p=>dup (ev q.E p.2)) t.zero with
    |some z=>K (.agg z) none q
    |none=>none)
   |_=>none)
  |none=>none
 | .buildSlice t len ps=>match T t with
  |some t=>(match t.kd with
   | .slice=>match Nat.beq (flg o) 0 with
     |false=>(match len,ps.toList with
      |0,[]=>newObj q.S (.obj t.el []) fun id S=>K (.osl id 0 t.esz 0) none { q with S:=S }
      |_,_=>none)
     |true=>(match partsInOrder 0 ps.toList&&Nat.beq ps.toList.length len&&Nat.ble (len*t.esz) 16777216&&Nat.ble len 16777216 &&
      ps.toList.all (fun p=>Nat.beq (cellsOf (dup (ev q.E p.2))).length t.esz&&(cellsOf (dup (ev q.E p.2))).all one) with
    |true=>K (.own t.el t.esz (ps.toList.map fun p=>dup (ev q.E p.2))) none q
    |false=>none)
   |_=>none)
  |none=>none
 | .load t x=>match T t with
  |some t=>(match Nat.beq (flg o) 0 with
    |false=>asPtr (ev q.E x) fun id p=>objAt q.S id fun ty xs=>(match Nat.beq (flg o) 4 with
   |true=>(match Nat.beq t.lk.length 1&&!(isAggK t.kd) with
    |true=>ldRaw xs p fun v=>K v none q
    |false=>none)
   |false=>match Nat.beq (flg o) 2,t.kd with
     |true,.slice=>asOwn t.el t.esz (xs.getD p .any) fun ys=>K (.own t.el t.esz ys) none { q with S:=q.S.set id (ty (xs.set p (.sl t.esz ys))) }
     |true,_=>none
     |false,_=>ldO t xs p fun v=>(match Nat.beq (flg o) 3,t.kd with
      |true,.ptr=>asPtr v fun id p=>K (.ptr id p) none q
      |true,.map=>asMap v fun id=>K (.map id) none q
      |true,_=>none
      |false,_=>K v none q))
    |true=>match q.addr x with
   |some (d,o)=>(match Nat.ble (o+t.lk.length) (boxAt q.E d).length&&Nat.blt 0 t.lk.length&&(isAggK t.kd||Nat.beq t.lk.length 1) with
    |true=>K (part t (boxAt q.E d) o) none q
    |false=>none)
   |none=>match ev q.E x with
    | .cptr v n o=>(match isAggK t.kd with
     |true=>(match Nat.beq o 0&&Nat.beq n t.lk.length with
      |true=>decT t v fun v=>K v none q
      |false=>ifB (Nat.ble (o+t.lk.length) n) (mat n v fun xs=>decL t.lk xs o fun l=>K (.agg l) none q) none)
     |false=>(match Nat.blt o n with
      |true=>decT t (leaf v o) fun v=>K v none q
      |false=>none))
    |_=>none)
  |none=>none
 | .store t x y=>match Nat.beq (flg o) 3 with
   |true=>storeD T t x y q K
   |false=>match T t with
  |some t=>(match Nat.beq (flg o) 0 with
    |false=>asPtr (ev q.E x) fun id p=>objAt q.S id fun ty xs=>(match Nat.beq (flg o) 2,ev q.E y with
     |true,.own e z ys=>(match Nat.beq t.lk.length 1 with
      |true=>stO xs p [.own e z ys] fun zs=>K .any none { (q.used y) with S:=q.S.set id (ty zs) }
      |false=>none)
     |true,_=>none
     |false,_=>(match Nat.beq (cellsOf (dup (ev q.E y))).length t.lk.length&&(cellsOf (dup (ev q.E y))).all one with
      |true=>stO xs p (cellsOf (dup (ev q.E y))) fun zs=>K .any none { q with S:=q.S.set id (ty zs) }
      |false=>none))
    |true=>match q.addr x with
   |some (d,o)=>(match Nat.ble (o+t.lk.length) (boxAt q.E d).length&&Nat.blt 0 t.lk.length&&Nat.beq (cellsOf (dup (ev q.E y))).length t.lk.length&&(cellsOf (dup (ev q.E y))).all one with
    |true=>K .any none { q with E:=q.E.set d (.lbox (setFrom (boxAt q.E d) o (cellsOf (dup (ev q.E y))))) }
    |false=>none)
   |none=>none)
  |none=>none
 | .binOp op t x y _=>match T t with
  |some t=>binop t op (ev q.E x) (ev q.E y) fun v=>K v none q
  |none=>none
 | .unOp op _ x=>match op with
  | .not=>asBool (ev q.E x) fun b=>K (.bool (!b)) none q
  |_=>none
 | .convert s t x=>match T s,T t with
  |some s,some t=>(match s.kd,t.kd with
   | .int a,.int b=>asInt a (ev q.E x) fun n=>K (.int b (b.wrap n)) none q
   | .str,.str=>asStr (ev q.E x) fun s=>K (.str s) none q
   | .slice,.str=>(match (T s.el).map TI.kd with
    |some (.int .u8)=>asSl 1 (ev q.E x) fun xs=>strOf xs fun s=>K (.str s) none q
    |_=>none)
   | .str,.slice=>(match (T t.el).map TI.kd with
    |some (.int .u8)=>asStr (ev q.E x) fun s=>ifB (decide (s.size≤9223372036854775807)) (K (.sl 1 (bytesL s)) none q) none
    |_=>none)
   |_,_=>none)
  |_,_=>none
 | .slice t x lo hi mx=>match T t,mx with
  |some t,none=>(match t.kd with
   | .str=>asStr (ev q.E x) fun s=>intOr q.E lo 0 fun l=>intOr q.E hi s.size fun h=>slStr s l h fun r=>K (.str r) none q
   | .slice=>(match Nat.beq (flg o) 0 with
    |true=>asSl t.esz (ev q.E x) fun xs=>intOr q.E lo 0 fun l=>intOr q.E hi xs.length fun h=>slL xs l h fun r=>K (.sl t.esz r) none q
    |false=>match lo,hi with
     |none,some h=>asI (ev q.E h) fun m=>slO t.esz (ev q.E x) m fun v=>K v none q
     |some l,hi=>asI (ev q.E l) fun l=>oslOr (ev q.E x) (fun id p z n=>intOr q.E hi n fun h=>ifB (Nat.beq z t.esz&&Nat.blt 0 z&&decide (0≤l∧l≤h∧h≤n)) (K (.osl id (p+l.toNat*z) z (h.toNat-l.toNat)) none q) none) none
     |_,_=>none)
   |_=>none)
  |_,_=>none
 | .fieldAddr t x i=>match T t with
  |some t=>(match t.fs[i]? with
   |some (o,_,_)=>(match q.addr x with
    |some (d,p)=>K .any (some (d,p+o)) q
    |none=>match ev q.E x with
     | .cptr v n p=>(match Nat.ble (p+o) n with
      |true=>K (.cptr v n (p+o)) none q
      |false=>none)
     | .ptr id p=>K (.ptr id (p+o)) none q
     |_=>none)
   |none=>none)
  |none=>none
 | .field t x i=>match T t with
  |some t=>(match t.fs[i]? with
   |some (o,_,ft)=>(match T ft,ev q.E x with
    |some ft,.agg xs=>(match Nat.ble (o+ft.lk.length) xs.length&&Nat.blt 0 ft.lk.length&&(isAggK ft.kd||Nat.beq ft.lk.length 1) with
     |true=>K (part ft xs o) none q
     |false=>none)
    |_,_=>none)
   |none=>none)
  |none=>none
 | .indexAddr t x i=>match T t with
  |some t=>(match t.kd with
   | .slice=>oslOr (ev q.E x) (fun id p z n=>ifB (Nat.beq z t.esz) (asI (ev q.E i) fun m=>idxN n m fun m=>K (.ptr id (p+m*z)) none q) none)
    (match Nat.beq (flg o) 0 with
    |true=>asSl t.esz (ev q.E x) fun xs=>asI (ev q.E i) fun n=>idxL xs n fun v=>K (.cptr v t.esz 0) none q
    |false=>none)
   |_=>none)
  |none=>none
 | .index t x i=>match T t with
  |some t=>(match t.kd with
   | .str=>asStr (ev q.E x) fun s=>asI (ev q.E i) fun n=>idxStr s n fun b=>K (.int .u8 b) none q
   |_=>none)
  |none=>none
 | .extract x i=>match x,ev q.E x with
  | .tmp t,.tup vs=>(match Nat.blt i vs.length with
   |true=>(match Nat.beq (flg o) 0 with
    |true=>K (vs.getD i .any) none { q with E:=q.E.set t (.tup (vs.set i (dup (vs.getD i .any)))) }
    |false=>K (dup (vs.getD i .any)) none q)
   |false=>none)
  |_,_=>none
 | .call c=>match c.callee with
  | .builtin b=>(match Nat.beq (flg o) 0 with
   |true=>callB T b c.argTypes c.args q K
   |false=>callM T b c.argTypes c.args q K)
  | .value x=>asFn (ev q.E x) fun f cs=>C (funV f) (argsV f (takes c.args.toList q).1 cs) q.S fun v S=>K v none { (takes c.args.toList q).2 with S:=S }
  |_=>none
 |_=>none
noncomputable def wanted (ops:Array Oper) (q:Q) (o:Oper) (K:Bool→Q→Option R):Option R :=
 match o.guard with
 |none=>K true q
 |some (j,want)=>match (ops[j]?).bind (·.dst) with
  |some d=>(match q.E.getD d .any with
   | .bool b=>ifB b (setK q.E d (.bool true) fun E=>K want ⟨E,q.A,q.S⟩) (setK q.E d (.bool false) fun E=>K (!want) ⟨E,q.A,q.S⟩)
   | .und=>K false q
   |_=>none)
  |none=>none
noncomputable def runOps (T:Nat→Option TI) (C:Nat→Hd R) (ops:Array Oper):List Oper→Q→(Q→Option R)→Option R
 |[],q,K=>K q
 |o::os,q,K=>wanted ops q o fun b q=>match b with
  |true=>lop T C o q fun v al q=>q.putK o.dst v al fun q=>runOps T C ops os q K
  |false=>q.putK o.dst .und none fun q=>runOps T C ops os q K
inductive LS where
 |int (k:IntKind)|bool|str|sl (z:Nat)|own (e z:Nat)|raw|ptr|map|osl (z:Nat)|nilp|nilm|nilf|nili|nils
inductive SH where
 |lf (s:LS)|agg (l:List LS)|lbox (l:List LS)|fn (f:FuncId) (l:List LS)
def LS.ty:LS→Type
 | .int _=>Int
 | .bool=>Bool
 | .str=>ByteArray
 | .sl _=>List LV
 | .own _ _=>List LV
 | .raw=>LV
 | .ptr=>Nat×Nat
 | .map=>Nat
 | .osl _=>Nat×Nat×Nat
 |_=>Unit
def LTys:List LS→Type
 |[]=>Unit
 |s::l=>s.ty×LTys l
def SH.ty:SH→Type
 | .lf s=>s.ty
 | .agg l=>LTys l
 | .lbox l=>LTys l
 | .fn _ l=>LTys l
abbrev Mk:=List (Option SH)
def Mk.ty:Mk→Type
 |[]=>Unit
 |none::m=>Mk.ty m
 |some s::m=>s.ty×Mk.ty m
def LS.enc:(s:LS)→s.ty→LV
 | .int k,n=>.int k n
 | .bool,b=>.bool b
 | .str,s=>.str s
 | .sl z,xs=>.sl z xs
 | .own e z,xs=>.own e z xs
 | .raw,v=>v
 | .ptr,x=>.ptr x.1 x.2
 | .map,id=>.map id
 | .osl z,x=>.osl x.1 x.2.1 z x.2.2
 | .nilp,_=>.nilp
 | .nilm,_=>.nilm
 | .nilf,_=>.nilf
 | .nili,_=>.nili
 | .nils,_=>.nilsl
def encL:(l:List LS)→LTys l→List LV
 |[],_=>[]
 |s::l,x=>s.enc x.1::encL l x.2
def SH.enc:(s:SH)→s.ty→LV
 | .lf s,x=>s.enc x
 | .agg l,x=>.agg (encL l x)
 | .lbox l,x=>.lbox (encL l x)
 | .fn f l,x=>.fn f (encL l x)
def Mk.enc:(m:Mk)→m.ty→List LV
 |[],_=>[]
 |none::m,x=>.any::Mk.enc m x
 |some s::m,x=>s.enc x.1::Mk.enc m x.2
def LS.dec:(s:LS)→LV→Option s.ty
 | .int k,.int k' n=>(match Nat.beq (ikN k') (ikN k) with|true=>some n|false=>none)
 | .bool,.bool b=>some b
 | .str,.str s=>some s
 | .sl z,.sl z' xs=>(match Nat.beq z' z with|true=>some xs|false=>none)
 | .own e z,.own e' z' xs=>(match Nat.beq e' e&&Nat.beq z' z with|true=>some xs|false=>none)
 | .raw,v=>some v
 | .ptr,.ptr id o=>some (id,o)
 | .map,.map id=>some id
 | .osl z,.osl id o z' n=>(match Nat.beq z' z with|true=>some (id,o,n)|false=>none)
 | .nilp,.nilp=>some ()
 | .nilm,.nilm=>some ()
 | .nilf,.nilf=>some ()
 | .nili,.nili=>some ()
 | .nils,.nilsl=>some ()
 |_,_=>none
def decLs:(l:List LS)→List LV→Option (LTys l)
 |[],[]=>some ()
 |s::l,v::vs=>(match s.dec v with
  |some x=>(match decLs l vs with
   |some y=>some (x,y)
   |none=>none)
  |none=>none)
 |_,_=>none
def SH.dec:(s:SH)→LV→Option s.ty
 | .lf s,v=>s.dec v
 | .agg l,.agg vs=>decLs l vs
 | .lbox l,.lbox vs=>decLs l vs
 | .fn f l,.fn f' vs=>(match Nat.beq f' f with|true=>decLs l vs|false=>none)
 |_,_=>none
def isAny:LV→Bool
 | .any=>true
 |_=>false
def Mk.dec:(m:Mk)→List LV→Option m.ty
 |[],[]=>some ()
 |none::m,v::vs=>(match isAny v with|true=>Mk.dec m vs|false=>none)
 |some s::m,v::vs=>(match s.dec v with
  |some x=>(match Mk.dec m vs with
   |some y=>some (x,y)
   |none=>none)
  |none=>none)
 |_,_=>none
def LS.co:LS→LV→LV
 | .sl z,.nilsl=>.sl z []
 | .sl _,.own _ z xs=>.sl z xs
 | .sl _,.nsl z xs=>.sl z xs
 | .own e z,.nilsl=>.own e z []
 |_,v=>v
def coL:List LS→List LV→List LV
 |_,[]=>[]
 |[],vs=>vs
 |s::l,v::vs=>s.co v::coL l vs
def SH.co:SH→LV→LV
 | .lf s,v=>s.co v
 | .agg l,.agg vs=>.agg (coL l vs)
 | .lbox l,.lbox vs=>.lbox (coL l vs)
 |_,v=>v
def Mk.co:Mk→List LV→List LV
 |_,[]=>[]
 |[],_::vs=>.any::Mk.co [] vs
 |none::m,_::vs=>.any::Mk.co m vs
 |some s::m,v::vs=>s.co v::Mk.co m vs
def Q.mask (m:Mk) (q:Q):Q:={ q with E:=m.co q.E,A:=List.replicate q.E.length none }
def Qm (m:Mk) (x:m.ty) (S:List LV):Q:=⟨m.enc x,List.replicate m.length none,S⟩
inductive An (R:Type) where
 |auto
 |mask (m:Mk) (a:An R)
 |frz (t:Nat) (a:An R)
 |asp (t:Nat) (a:An R)
 |frr (t z:Nat) (a:An R)
 |frl (t j z:Nat) (a:An R)
 |own (tk:List (Nat×Nat))
 |drawn (tk:List (Nat×Nat)) (is:List Nat)
 |hide (t:Nat) (tk:List (Nat×Nat)) (is:List Nat)
 |quiet (tk:List (Nat×Nat)) (is:List Nat)
 |piece (h:Q→(LX→Q→Option R)→Option R)
 |seq (a b:An R)
 |cond (a b:An R)
 |block (a:An R)
noncomputable def lloop (B:Q→(LX→Q→Option R)→Option R) (m:Mk):Nat→Q→(LX→Q→Option R)→Option R
 |0,_,_=>none
 |n+1,q,K=>B q fun x q=>match x with
  | .nrm=>lloop B m n (q.mask m) K
  |x=>K x q
def stillB (o:Oper):Bool:=match o.op with
 | .move _=>true
 | .pick _ _ _=>true
 | .alloc _=>Nat.beq (flg o) 0
 | .box _ _=>Nat.beq (flg o) 0
 | .extract _ _=>!(Nat.beq (flg o) 0)
 | .build _ _=>true
 | .buildSlice _ _ _=>Nat.beq (flg o) 0
 | .load _ _=>Nat.beq (flg o) 0
 | .makeFunc _ _ _=>true
 | .nilCheck _=>true
 | .binOp _ _ _ _ _=>true
 | .unOp _ _ _=>true
 | .convert _ _ _=>true
 | .slice _ _ _ _ _=>true
 | .fieldAddr _ _ _=>true
 | .field _ _ _=>true
 | .indexAddr _ _ _=>true
 | .index _ _ _=>true
 | .call c=>(match c.callee with
  | .builtin .len=>Nat.beq (flg o) 0
  | .builtin .min=>Nat.beq (flg o) 0
  |_=>false)
 |_=>false
def mildB (o:Oper):Bool:=match o.op with
 | .assign _=>true
 | .alloc _=>!(Nat.beq (flg o) 0)
 | .box _ _=>!(Nat.beq (flg o) 0)
 | .load _ _=>!(Nat.beq (flg o) 0)
 | .store _ _ _=>!(Nat.beq (flg o) 0)
 | .makeMap _ none=>true
 | .buildSlice _ _ _=>!(Nat.beq (flg o) 0)
 | .makeSlice _ _ _=>true
 | .lookup _ _ _ _=>true
 | .mapUpdate _ _ _ _=>true
 | .call c=>(match c.callee with
  | .builtin .append=>true
  | .builtin .copy=>!(Nat.beq (flg o) 0)
  | .builtin .len=>!(Nat.beq (flg o) 0)
  | .value _=>true
  |_=>false)
 |_=>false
def softB (o:Oper):Bool:=stillB o||mildB o
def takeB (o:Oper):Bool:=stillB o||match o.op with
 | .assign _=>true
 |_=>false
def calmB (o:Oper):Bool:=takeB o||match o.op with
 | .load _ _=>!(Nat.beq (flg o) 0)&&!(Nat.beq (flg o) 2)
 | .store _ _ _=>Nat.beq (flg o) 3
 | .lookup _ _ _ _=>true
 | .call c=>(match c.callee with
  | .builtin .len=>!(Nat.beq (flg o) 0)
  |_=>false)
 |_=>false
def tmpsOf (xs:List Operand):List Nat:=xs.filterMap fun | .tmp t=>some t|_=>none
def usedOf (o:Oper):List Nat:=match o.op with
 | .assign x=>tmpsOf [x]
 | .store _ x y=>(match Nat.beq (flg o) 3 with
  |true=>tmpsOf [x]
  |false=>(match Nat.beq (flg o) 2 with|true=>tmpsOf [y]|false=>[]))
 | .call c=>(match c.callee with | .builtin .len=>[]|_=>tmpsOf o.op.operands.toList)
 |_=>[]
def dall (ops:Array Oper):List Nat:=ops.toList.flatMap fun o=>o.dst.toList++usedOf o
def okX (D:List Nat) (_:LV) (al:Option (Nat×Nat)):Bool:=match al with|some (d,_)=>!(D.contains d)|none=>true
def startOk (D:List Nat) (q:Q):Bool:=q.A.all fun al=>match al with|some (d,_)=>!(D.contains d)|none=>true
def hidR (h:Nat) (ob:LV) (S:List LV) (K:List LV→Option R):Option R:=ifB (Nat.blt h S.length) (K (S.set h ob)) none
def hideC (h:Nat) (C:Nat→Hd R):Nat→Hd R:=fun f args S K=>C f args (S.set h .any) fun v S'=>hidR h (S.getD h .any) S' fun S'=>K v S'
open Classical in
noncomputable def quiR (S S':List LV) (K:List LV→Option R):Option R:=if S'=S then K S else none
noncomputable def quietC (C:Nat→Hd R):Nat→Hd R:=fun f args S K=>C f args S fun v S'=>quiR S S' fun S=>K v S
def hidChk (hid:Option Nat) (o:Oper) (q:Q) (A:Option R):Option R:=match hid with
 |none=>A
 |some h=>match o.op with
  | .load _ x=>(match Nat.beq (flg o) 0 with
   |true=>A
   |false=>asPtr (ev q.E x) fun id _=>ifB (Nat.beq id h) A none)
  |_=>A
noncomputable def runD (T:Nat→Option TI) (C:Nat→Hd R) (ops:Array Oper) (D:List Nat) (hid:Option Nat):List Oper→Q→(Q→Option R)→Option R
 |[],q,K=>K q
 |o::os,q,K=>wanted ops q o fun b q=>match b with
  |true=>hidChk hid o q (lop T C o q fun x al q=>(match okX D x al&&(softB o||startOk D q) with
   |true=>q.putK o.dst x al fun q=>runD T C ops D hid os q K
   |false=>none))
  |false=>q.putK o.dst .und none fun q=>runD T C ops D hid os q K
def flag1 (b:Nat) (o:Oper):Oper:=match b with
 |0=>o
 |b+1=>(match o.op with
  | .move x=>(match b with|0=>{ o with op:=.assign x } | _=>{ o with type:=o.type+1000000*(b+1) })
  | .alloc _=>{ o with type:=o.type+1000000*(b+1) }
  | .box _ _=>{ o with type:=o.type+1000000*(b+1) }
  | .load _ _=>{ o with type:=o.type+1000000*(b+1) }
  | .store _ _ _=>{ o with type:=o.type+1000000*(b+1) }
  | .extract _ _=>{ o with type:=o.type+1000000*(b+1) }
  | .buildSlice _ _ _=>{ o with type:=o.type+1000000*(b+1) }
  | .nilCheck _=>{ o with type:=o.type+1000000*(b+1) }
  | .slice _ _ _ _ _=>{ o with type:=o.type+1000000*(b+1) }
  | .indexAddr _ _ _=>{ o with type:=o.type+1000000*(b+1) }
  | .call c=>(match c.callee with
   | .builtin .len=>{ o with type:=o.type+1000000*(b+1) }
   | .builtin .append=>{ o with type:=o.type+1000000*(b+1) }
   | .builtin .copy=>{ o with type:=o.type+1000000*(b+1) }
   |_=>o)
  |_=>o)
def flagAt:List (Nat×Nat)→Nat→Nat
 |[],_=>0
 | (j,f)::l,i=>match Nat.beq j i with
  |true=>f
  |false=>flagAt l i
def flagL (tk:List (Nat×Nat)):Nat→List Oper→List Oper
 |_,[]=>[]
 |i,o::os=>flag1 (flagAt tk i) o::flagL tk (i+1) os
def flagA (tk:List (Nat×Nat)) (ops:Array Oper):Array Oper:=(flagL tk 0 ops.toList).toArray
def opsAt (ops:List Oper):List Nat→List Oper
 |[]=>[]
 |i::is=>match ops[i]? with
  |some o=>o::opsAt ops is
  |none=>[]
noncomputable def lexec (T:Nat→Option TI) (C:Nat→Hd R):An R→Code→Q→(LX→Q→Option R)→Option R
 | .piece h,_,q,K=>h q K
 | .mask m a,c,q,K=>lexec T C a c (q.mask m) K
 | .frz t a,c,q,K=>frzQ t q fun q=>lexec T C a c q K
 | .frr t z a,c,q,K=>frzO z (q.E.getD t .any) q.S fun xs S=>setK q.E t (.sl z xs) fun E=>lexec T C a c ⟨E,q.A,S⟩ K
 | .frl t j z a,c,q,K=>(match q.E.getD t .any with
  | .lbox vs=>frzO z (vs.getD j .any) q.S fun ys S=>setK q.E t (.lbox (vs.set j (.sl z ys))) fun E=>lexec T C a c ⟨E,q.A,S⟩ K
  |_=>none)
 | .asp t a,c,q,K=>asPtr (q.E.getD t .any) fun i o=>setK q.E t (.ptr i o) fun E=>lexec T C a c ⟨E,q.A,q.S⟩ K
 | .own tk,.region _ ops draw,q,K=>(match draw with
  |false=>runOps T C (flagA tk ops) (flagA tk ops).toList q fun q=>K .nrm q
  |true=>none)
 | .drawn tk is,.region _ ops _,q,K=>(match startOk (dall (flagA tk ops)) q with
  |true=>runD T C (flagA tk ops) (dall (flagA tk ops)) none (opsAt (flagA tk ops).toList is) q fun q=>K .nrm q
  |false=>none)
 | .quiet tk is,.region _ ops _,q,K=>(match startOk (dall (flagA tk ops)) q with
  |true=>runD T (quietC C) (flagA tk ops) (dall (flagA tk ops)) none (opsAt (flagA tk ops).toList is) q fun q=>K .nrm q
  |false=>none)
 | .hide t tk is,.region _ ops _,q,K=>(match startOk (dall (flagA tk ops)) q with
  |true=>asPtr (q.E.getD t .any) fun h _=>runD T (hideC h C) (flagA tk ops) (dall (flagA tk ops)) (some h) (opsAt (flagA tk ops).toList is) q fun q=>K .nrm q
  |false=>none)
 | .auto,c,q,K=>match c with
  | .skip=>K .nrm q
  | .region _ ops draw=>(match draw with
   |false=>runOps T C ops ops.toList q fun q=>K .nrm q
   |true=>none)
  | .exit id=>K (.ext id) q
  | .ret=>K .ret q
  |_=>none
 | .seq x y,.seq a b,q,K=>lexec T C x a q fun e q=>match e with
  | .nrm=>lexec T C y b q K
  |e=>K e q
 | .cond x y,.cond c a b,q,K=>asBool (ev q.E c) fun t=>ifB t (lexec T C x a q K) (lexec T C y b q K)
 | .block a,.block id c,q,K=>lexec T C a c q fun x q=>match x with
  | .nrm=>K .nrm q
  | .ext i=>ifB (Nat.beq i id) (K .nrm q) (K (.ext i) q)
  | .ret=>K .ret q
 |_,_,_,_=>none
end
end Go.Lm
namespace Go.Lm
structure Cx where
 ι:Nat→Nat
 n:Nat
 I:Nat→Nat→Prop
 w:World
def flatO (n:Nat) (os:Nat→List Nat):List Nat:=(List.range n).flatMap os
inductive Rep (c:Cx):LV→Value→List Nat→Prop
 |int (k:IntKind) (n:Int):Rep c (.int k n) (.int k n) []
 |bool (b:Bool):Rep c (.bool b) (.bool b) []
 |str (s:ByteArray):Rep c (.str s) (.string s) []
 |nilsl:Rep c .nilsl (.slice none 0 0) []
 |sl0 (sz:Nat) (a:Option Addr) (cap:Nat) (hn:a=none→cap=0):Rep c (.sl sz []) (.slice a 0 cap) []
 |sl (sz b off cap:Nat) (xs:List LV) (cv:Nat→Value) (hcap:xs.length≤cap) (hmax:xs.length≤9223372036854775807)
   (hc:∀p,p<xs.length*sz→c.w.cell? ⟨b,off+p,none⟩=some (cv p))
   (hI:∀p,p<xs.length*sz→c.I b (off+p)) (h1:∀p,p<xs.length*sz→(cv p).oneCell'=true)
   (hr:∀p,p<xs.length*sz→Rep c (leaf (xs.getD (p / sz) .any) (p % sz)) (cv p) []) :
   Rep c (.sl sz xs) (.slice (some ⟨b,off,none⟩) xs.length cap) []
 |own0 (e sz:Nat):Rep c (.own e sz []) (.slice none 0 0) []
 |own (e:TypeId) (sz g cap:Nat) (xs:List LV) (cur:Array Value) (hcap:xs.length≤cap) (hmax:cap≤9223372036854775807)
   (hh:c.w.heap[g]? = some (.cells cur e (0,0))) (hs:cur.size=cap*sz)
   (hI:∀p,c.I g p ↔ p<xs.length*sz) (h1:∀p,p<cur.size→(cur.getD p undef).oneCell'=true)
   (hr:∀p,p<xs.length*sz→Rep c (leaf (xs.getD (p / sz) .any) (p % sz)) (cur.getD p undef) []) :
   Rep c (.own e sz xs) (.slice (some ⟨g,0,none⟩) xs.length cap) [g]
 |cptr (x:LV) (o n b off:Nat) (cv:Nat→Value) (ho:o≤n)
   (hc:∀p,p<n→c.w.cell? ⟨b,off+p,none⟩=some (cv p))
   (hI:∀p,p<n→c.I b (off+p)) (h1:∀p,p<n→(cv p).oneCell'=true)
   (hr:∀p,p<n→Rep c (leaf x p) (cv p) []) :
   Rep c (.cptr x n o) (.pointer (some ⟨b,off+o,none⟩)) []
 |ptr (id o:Nat) (h:id<c.n):Rep c (.ptr id o) (.pointer (some ⟨c.ι id,o,none⟩)) []
 |nilp:Rep c .nilp (.pointer none) []
 |map (id:Nat) (h:id<c.n):Rep c (.map id) (.map (some (c.ι id))) []
 |nilm:Rep c .nilm (.map none) []
 |fn (f:FuncId) (caps:List LV) (cs:Array Value) (hf:f<fnB) (hs:cs.size=caps.length)
   (hr:∀i,i<caps.length→Rep c (caps.getD i .any) (cs.getD i undef) []):Rep c (.fn f caps) (.func (.func f) #[] cs) []
 |fnm (f g:FuncId) (hg:g=f+fnB) (caps:List LV) (cs:Array Value) (hs:cs.size=caps.length)
   (hr:∀i,i<caps.length→Rep c (caps.getD i .any) (cs.getD i undef) []):Rep c (.fn g caps) (.func (.func f) cs #[]) []
 |nilf:Rep c .nilf .nilFunc []
 |nili:Rep c .nili .nilIface []
 |agg (xs:List LV) (cs:Array Value) (hs:cs.size=xs.length)
   (hr:∀i,i<xs.length→Rep c (xs.getD i .any) (cs.getD i undef) []):Rep c (.agg xs) (.agg cs) []
 |tup (xs:List LV) (cs:Array Value) (os:Nat→List Nat) (hs:cs.size=xs.length)
   (hr:∀i,i<xs.length→Rep c (xs.getD i .any) (cs.getD i undef) (os i)):Rep c (.tup xs) (.tuple cs) (flatO xs.length os)
 |lbox (xs:List LV) (g:Nat) (cur:Array Value) (e:TypeId) (hs:cur.size=xs.length)
   (hh:c.w.heap[g]? = some (.cells cur e (0,0))) (hI:∀p,¬ c.I g p) (h1:∀p,p<cur.size→(cur.getD p undef).oneCell'=true)
   (hr:∀i,i<xs.length→Rep c (xs.getD i .any) (cur.getD i undef) []):Rep c (.lbox xs) (.pointer (some ⟨g,0,none⟩)) [g]
 |any (v:Value):Rep c .any v []
 |und:Rep c .und undef []
 |mp (kd:KD) (kvs ks:List (LV×LV)) (g:Nat) (es:Array MapEntry) (clock:Nat) (hp:ks.Perm kvs) (hh:c.w.heap[g]? = some (.map es clock)) (hst:MapKept.Stamped es clock) (hs:es.size=ks.length)
   (hk:∀i,i<ks.length→rigid (ks.getD i (.any,.any)).1=some (es.getD i ⟨undef,undef,0⟩).key∧keyOk kd (ks.getD i (.any,.any)).1=true)
   (hI:∀p,¬ c.I g p) (hr:∀i,i<ks.length→Rep c (ks.getD i (.any,.any)).2 (es.getD i ⟨undef,undef,0⟩).val []):Rep c (.mp kd kvs) (.map (some g)) [g]
 |obj (e:TypeId) (xs:List LV) (g:Nat) (cur:Array Value) (os:Nat→List Nat) (hs:cur.size=xs.length)
   (hh:c.w.heap[g]? = some (.cells cur e (0,0))) (hI:∀p,¬ c.I g p) (h1:∀p,p<cur.size→(cur.getD p undef).oneCell'=true)
   (hr:∀i,i<xs.length→Rep c (xs.getD i .any) (cur.getD i undef) (os i)):Rep c (.obj e xs) (.pointer (some ⟨g,0,none⟩)) (g::flatO xs.length os)
 |vec (e:TypeId) (xs:List LV) (g:Nat) (cur:Array Value) (os:Nat→List Nat) (hs:xs.length≤cur.size)
   (hh:c.w.heap[g]? = some (.cells cur e (0,0))) (hI:∀p,¬ c.I g p) (h1:∀p,p<cur.size→(cur.getD p undef).oneCell'=true)
   (hr:∀i,i<xs.length→Rep c (xs.getD i .any) (cur.getD i undef) (os i)):Rep c (.vec e xs) (.pointer (some ⟨g,0,none⟩)) (g::flatO xs.length os)
 |oslX (id o o' sz n cap:Nat) (h:id<c.n) (hcap:n≤cap) (hmax:cap≤9223372036854775807) (ho:o'=o∨cap=0∧0<o)
   (hz:∃cur e k,c.w.heap[c.ι id]? = some (.cells cur e k)∧o'+cap*sz≤cur.size):Rep c (.osl id o sz n) (.slice (some ⟨c.ι id,o',none⟩) n cap) []
 |glob (k:Nat) (ob:Obj) (hh:c.w.heap[k]? = some ob):Rep c (.glob k ob) (.pointer (some ⟨k,0,none⟩)) [k]
 |nsl (sz:Nat) (xs:List LV) (v:Value) (a:Addr) (n cap:Nat) (hv:v = .slice (some a) n cap) (h:Rep c (.sl sz xs) v []):Rep c (.nsl sz xs) v []
theorem Rep.osl {c:Cx} (id o sz n cap:Nat) (h:id<c.n) (hcap:n≤cap) (hmax:cap≤9223372036854775807)
  (hz:∃cur e k,c.w.heap[c.ι id]? = some (.cells cur e k)∧o+cap*sz≤cur.size):Rep c (.osl id o sz n) (.slice (some ⟨c.ι id,o,none⟩) n cap) []:=.oslX id o o sz n cap h hcap hmax (.inl rfl) hz
structure Ext (c c':Cx) (M:Nat→Prop):Prop where
 n:c.n≤c'.n
 ι:∀id,id<c.n→c'.ι id=c.ι id
 I:∀b o,c.I b o→c'.I b o
 cell:∀b o,c.I b o→c'.w.cell? ⟨b,o,none⟩=c.w.cell? ⟨b,o,none⟩
 size:c.w.heap.size≤c'.w.heap.size
 block:∀b,b<c.w.heap.size→¬ M b→c'.w.heap[b]? = c.w.heap[b]?
 back:∀b o,b<c.w.heap.size→¬ M b→c'.I b o→c.I b o
 fit:∀b cur e k,M b→c.w.heap[b]? = some (.cells cur e k)→∃cur' k',c'.w.heap[b]? = some (.cells cur' e k')∧cur'.size=cur.size
 os:c'.w.os=c.w.os
 tape:c'.w.tape=c.w.tape
 output:c'.w.output=c.w.output
theorem Ext.fits {c c':Cx} {M:Nat→Prop} (h:Ext c c' M) {b:Nat} {cur:Array Value} {e:TypeId} {k:Nat×Nat} (hb:c.w.heap[b]? = some (.cells cur e k)):∃cur' k',c'.w.heap[b]? = some (.cells cur' e k')∧cur'.size=cur.size:=by
 by_cases hm:M b
 ·exact h.fit b cur e k hm hb
 ·exact ⟨cur,k,(h.block b (Array.getElem?_eq_some_iff.1 hb).1 hm).trans hb,rfl⟩
theorem Ext.refl (c:Cx) (M:Nat→Prop):Ext c c M:=⟨Nat.le_refl _,fun _ _=>rfl,fun _ _ h=>h,fun _ _ _=>rfl,Nat.le_refl _,fun _ _ _=>rfl,fun _ _ _ _ h=>h,fun _ cur _ k _ h=>⟨cur,k,h,rfl⟩,rfl,rfl,rfl⟩
theorem Ext.trans {c c' c'':Cx} {M M':Nat→Prop} (h:Ext c c' M) (h':Ext c' c'' M') (hM:∀b,b<c.w.heap.size→M' b→M b):Ext c c'' M where
 n:=Nat.le_trans h.n h'.n
 ι id hi:=(h'.ι id (Nat.lt_of_lt_of_le hi h.n)).trans (h.ι id hi)
 I b o hb:=h'.I b o (h.I b o hb)
 cell b o hb:=(h'.cell b o (h.I b o hb)).trans (h.cell b o hb)
 size:=Nat.le_trans h.size h'.size
 block b hb hn:=(h'.block b (Nat.lt_of_lt_of_le hb h.size) (fun hm=>hn (hM b hb hm))).trans (h.block b hb hn)
 back b o hb hn hi:=h.back b o hb hn (h'.back b o (Nat.lt_of_lt_of_le hb h.size) (fun hm=>hn (hM b hb hm)) hi)
 fit b cur e k _ hb:=by
  obtain ⟨cur1,k1,h1,e1⟩:=h.fits hb
  obtain ⟨cur2,k2,h2,e2⟩:=h'.fits h1
  exact ⟨cur2,k2,h2,e2.trans e1⟩
 os:=h'.os.trans h.os
 tape:=h'.tape.trans h.tape
 output:=h'.output.trans h.output
theorem Ext.mono {c c':Cx} {M M':Nat→Prop} (h:Ext c c' M) (hM:∀b,M b→M' b):Ext c c' M' :=
 ⟨h.n,h.ι,h.I,h.cell,h.size,fun b hb hn=>h.block b hb (fun hm=>hn (hM b hm)),fun b o hb hn=>h.back b o hb (fun hm=>hn (hM b hm)),fun _ _ _ _ _ hb=>h.fits hb,h.os,h.tape,h.output⟩
theorem Rep.ext {c c':Cx} {M:Nat→Prop} (h:Ext c c' M) {x:LV} {v:Value} {O:List Nat} (r:Rep c x v O) (hO:∀g,g∈O→¬ M g):Rep c' x v O:=by
 induction r with
 |int k n=>exact .int k n
 |bool b=>exact .bool b
 |str s=>exact .str s
 |nilsl=>exact .nilsl
 |sl0 sz a cap hn=>exact .sl0 sz a cap hn
 |sl sz b off cap xs cv hcap hmax hc hI h1 hr ih =>
  exact .sl sz b off cap xs cv hcap hmax (fun p hp=>(h.cell _ _ (hI p hp)).trans (hc p hp)) (fun p hp=>h.I _ _ (hI p hp)) h1 (fun p hp=>ih p hp (by simp))
 |own0 e sz=>exact .own0 e sz
 |own e sz g cap xs cur hcap hmax hh hs hI h1 hr ih =>
  have hg:¬ M g:=hO g (by simp)
  have hlt:g<c.w.heap.size:=(Array.getElem?_eq_some_iff.1 hh).1
  exact .own e sz g cap xs cur hcap hmax ((h.block g hlt hg).trans hh) hs (fun p=>⟨fun hp=>(hI p).1 (h.back g p hlt hg hp),fun hp=>h.I _ _ ((hI p).2 hp)⟩) h1 (fun p hp=>ih p hp (by simp))
 |cptr x o n b off cv ho hc hI h1 hr ih =>
  exact .cptr x o n b off cv ho (fun p hp=>(h.cell _ _ (hI p hp)).trans (hc p hp)) (fun p hp=>h.I _ _ (hI p hp)) h1 (fun p hp=>ih p hp (by simp))
 |ptr id o hid=>rw [←h.ι id hid];exact .ptr id o (Nat.lt_of_lt_of_le hid h.n)
 |nilp=>exact .nilp
 |map id hid=>rw [←h.ι id hid];exact .map id (Nat.lt_of_lt_of_le hid h.n)
 |nilm=>exact .nilm
 |fn f caps cs hf hs hr ih=>exact .fn f caps cs hf hs (fun i hi=>ih i hi (by simp))
 |fnm f g hg caps cs hs hr ih=>exact .fnm f g hg caps cs hs (fun i hi=>ih i hi (by simp))
 |nilf=>exact .nilf
 |nili=>exact .nili
 |agg xs cs hs hr ih=>exact .agg xs cs hs (fun i hi=>ih i hi (by simp))
 |tup xs cs os hs hr ih =>
  exact .tup xs cs os hs (fun i hi=>ih i hi (fun g hg=>hO g (List.mem_flatMap.2 ⟨i,List.mem_range.2 hi,hg⟩)))
 |lbox xs g cur e hs hh hI h1 hr ih =>
  have hg:¬ M g:=hO g (by simp)
  have hlt:g<c.w.heap.size:=(Array.getElem?_eq_some_iff.1 hh).1
  exact .lbox xs g cur e hs ((h.block g hlt hg).trans hh) (fun p hp=>hI p (h.back g p hlt hg hp)) h1 (fun i hi=>ih i hi (by simp))
 |any v=>exact .any v
 |und=>exact .und
 |mp kd kvs ks g es clock hp hh hst hs hk hI hr ih =>
  have hg:¬ M g:=hO g (by simp)
  have hlt:g<c.w.heap.size:=(Array.getElem?_eq_some_iff.1 hh).1
  exact .mp kd kvs ks g es clock hp ((h.block g hlt hg).trans hh) hst hs hk (fun p hp=>hI p (h.back g p hlt hg hp)) (fun i hi=>ih i hi (by simp))
 |obj e xs g cur os hs hh hI h1 hr ih =>
  have hg:¬ M g:=hO g (by simp)
  have hlt:g<c.w.heap.size:=(Array.getElem?_eq_some_iff.1 hh).1
  exact .obj e xs g cur os hs ((h.block g hlt hg).trans hh) (fun p hp=>hI p (h.back g p hlt hg hp)) h1 (fun i hi=>ih i hi (fun g' hg'=>hO g' (List.mem_cons_of_mem _ (List.mem_flatMap.2 ⟨i,List.mem_range.2 hi,hg'⟩))))
 |vec e xs g cur os hs hh hI h1 hr ih =>
  have hg:¬ M g:=hO g (by simp)
  have hlt:g<c.w.heap.size:=(Array.getElem?_eq_some_iff.1 hh).1
  exact .vec e xs g cur os hs ((h.block g hlt hg).trans hh) (fun p hp=>hI p (h.back g p hlt hg hp)) h1 (fun i hi=>ih i hi (fun g' hg'=>hO g' (List.mem_cons_of_mem _ (List.mem_flatMap.2 ⟨i,List.mem_range.2 hi,hg'⟩))))
 |glob k ob hh =>
  have hg:¬ M k:=hO k (by simp)
  have hlt:k<c.w.heap.size:=(Array.getElem?_eq_some_iff.1 hh).1
  exact .glob k ob ((h.block k hlt hg).trans hh)
 |oslX id o o' sz n cap hid hcap hmax ho hz =>
  obtain ⟨cur,e,k,h1,h2⟩:=hz
  obtain ⟨cur',k',h3,h4⟩:=h.fits h1
  rw [←h.ι id hid];exact .oslX id o o' sz n cap (Nat.lt_of_lt_of_le hid h.n) hcap hmax ho ⟨cur',e,k',by rw [h.ι id hid];exact h3,by omega⟩
 |nsl sz xs v a n cap hv _ ih=>exact .nsl sz xs v a n cap hv (ih (by simp))
theorem Rep.lt {c:Cx} {x:LV} {v:Value} {O:List Nat} (r:Rep c x v O):∀g,g∈O→g<c.w.heap.size:=by
 induction r with
 |own e sz g cap xs cur hcap hmax hh hs hI h1 hr ih=>intro g' hg';simp at hg';subst hg';exact (Array.getElem?_eq_some_iff.1 hh).1
 |tup xs cs os hs hr ih=>intro g hg;obtain ⟨i,hi,hg⟩:=List.mem_flatMap.1 hg;exact ih i (List.mem_range.1 hi) g hg
 |lbox xs g cur e hs hh hI h1 hr ih=>intro g' hg';simp at hg';subst hg';exact (Array.getElem?_eq_some_iff.1 hh).1
 |glob k ob hh=>intro g' hg';simp at hg';subst hg';exact (Array.getElem?_eq_some_iff.1 hh).1
 |mp kd kvs ks g es clock hp hh hst hs hk hI hr ih=>intro g' hg';simp at hg';subst hg';exact (Array.getElem?_eq_some_iff.1 hh).1
 |obj e xs g cur os hs hh hI h1 hr ih =>
  intro g' hg'
  rcases List.mem_cons.1 hg' with rfl|hg'
  ·exact (Array.getElem?_eq_some_iff.1 hh).1
  ·obtain ⟨i,hi,hg⟩:=List.mem_flatMap.1 hg';exact ih i (List.mem_range.1 hi) g' hg
 |vec e xs g cur os hs hh hI h1 hr ih =>
  intro g' hg'
  rcases List.mem_cons.1 hg' with rfl|hg'
  ·exact (Array.getElem?_eq_some_iff.1 hh).1
  ·obtain ⟨i,hi,hg⟩:=List.mem_flatMap.1 hg';exact ih i (List.mem_range.1 hi) g' hg
 |_=>intro g hg;simp at hg
theorem Rep.dupL {c:Cx} {x:LV} {v:Value} {O:List Nat} (r:Rep c x v O):Rep c (dupL x) v []:=by
 cases r with
 |own0 e sz=>exact .sl0 sz none 0 (fun _=>rfl)
 |own e sz g cap xs cur hcap hmax hh hs hI h1 hr =>
  refine .sl sz g 0 cap xs (fun p=>cur.getD p undef) hcap (by omega) (fun p hp=>?_) (fun p hp=>?_) (fun p hp=>h1 p (by rw [hs];exact Nat.lt_of_lt_of_le hp (Nat.mul_le_mul_right _ hcap))) hr
  ·have hlt:p<cur.size:=by rw [hs];exact Nat.lt_of_lt_of_le hp (Nat.mul_le_mul_right _ hcap)
   simp [World.cell?,hh,hlt]
  ·rw [Nat.zero_add];exact (hI p).2 hp
 |agg xs cs hs hr=>exact .any _
 |tup xs cs os hs hr=>exact .any _
 |lbox xs g cur e hs hh hI h1 hr=>exact .any _
 |int k n=>exact .int k n
 |bool b=>exact .bool b
 |str s=>exact .str s
 |nilsl=>exact .nilsl
 |sl0 sz a cap hn=>exact .sl0 sz a cap hn
 |sl sz b off cap xs cv hcap hmax hc hI h1 hr=>exact .sl sz b off cap xs cv hcap hmax hc hI h1 hr
 |cptr x o n b off cv ho hc hI h1 hr=>exact .cptr x o n b off cv ho hc hI h1 hr
 |ptr id o hid=>exact .ptr id o hid
 |nilp=>exact .nilp
 |map id hid=>exact .map id hid
 |nilm=>exact .nilm
 |fn f caps cs hf hs hr=>exact .fn f caps cs hf hs hr
 |fnm f g hg caps cs hs hr=>exact .fnm f g hg caps cs hs hr
 |nilf=>exact .nilf
 |nili=>exact .nili
 |any v=>exact .any v
 |und=>exact .und
 |mp kd kvs ks g es clock hp hh hst hs hk hI hr=>exact .any _
 |obj xs g cur e os hs hh hI h1 hr=>exact .any _
 |vec xs g cur e os hs hh hI h1 hr=>exact .any _
 |glob k ob hh=>exact .any _
 |oslX id o o' sz n cap hid hcap hmax ho hz=>exact .oslX id o o' sz n cap hid hcap hmax ho hz
 |nsl sz xs v a n cap hv h=>exact .nsl sz xs v a n cap hv h
theorem flatO_nil (n:Nat):flatO n (fun _=>[])=[]:=by simp [flatO]
theorem getD_map {f:LV→LV} (xs:List LV) (i:Nat) (hf:f .any = .any):(xs.map f).getD i .any=f (xs.getD i .any):=by
 simp [List.getD_eq_getElem?_getD]
 cases xs[i]?<;>simp [hf]
theorem Rep.dup {c:Cx} {x:LV} {v:Value} {O:List Nat} (r:Rep c x v O):Rep c (dup x) v []:=by
 have h0:=r.dupL
 cases r with
 |agg xs cs hs hr =>
  have:=Rep.agg (c:=c) (xs.map Lm.dupL) cs (by simpa using hs) (fun i hi=>by
   rw [getD_map (f:=Lm.dupL) _ _ rfl];exact (hr i (by simpa using hi)).dupL)
  exact this
 |_=>exact h0
theorem Rep.one {c:Cx} {x:LV} {v:Value} {O:List Nat} (r:Rep c x v O) (h:one x=true):v.oneCell'=true:=by
 cases r<;>first|rfl|(subst_vars;rfl)|simp [Lm.one] at h
end Go.Lm
namespace Go.Lm
inductive Key where
 |env (t:Nat)|sto (id:Nat)|arg (i:Nat)
 deriving DecidableEq
abbrev Ow:=Key→List Nat
structure Sep (o:Ow):Prop where
 nd:∀k,(o k).Nodup
 dj:∀k k' g,k≠k'→g∈o k→g∉o k'
def oval:LV→Nat→Value
 | .mp _ _,b=>.map (some b)
 |_,b=>.pointer (some ⟨b,0,none⟩)
structure Sto (c:Cx) (S:List LV) (o:Ow):Prop where
 n:c.n=S.length
 r:∀id,id<S.length→Rep c (S.getD id .any) (oval (S.getD id .any) (c.ι id)) (o (.sto id))
 bd:∀b p,c.I b p→b<c.w.heap.size
structure Fr where
 c:Cx
 M:Nat→Prop
structure RelO (fr:Fr) (q:Q) (a:Act) (c:Cx) (xs:List LV) (vs:List Value) (o:Ow):Prop where
 len:q.E.length=a.tmps.size
 alen:q.A.length≤q.E.length
 env:∀t,t<q.E.length→Rep c (q.E.getD t .any) (a.tmps.getD t undef) (o (.env t))
 al:∀t d p,q.A.getD t none=some (d,p)→t<q.E.length∧d<q.E.length∧∃g,a.tmps.getD d undef = .pointer (some ⟨g,0,none⟩)∧a.tmps.getD t undef = .pointer (some ⟨g,p,none⟩)
 sto:Sto c q.S o
 fly:∀i,i<xs.length→Rep c (xs.getD i .any) (vs.getD i undef) (o (.arg i))
 flyl:vs.length=xs.length
 sep:Sep o
 ext:Ext fr.c c fr.M
 own:∀k g,g∈o k→g<c.w.heap.size∧(fr.M g∨fr.c.w.heap.size≤g)
 df:a.defers=[]
def RelX (fr:Fr) (q:Q) (a:Act) (c:Cx) (xs:List LV) (vs:List Value):Prop:=∃o,RelO fr q a c xs vs o
def Rel (fr:Fr) (q:Q) (a:Act) (c:Cx):Prop:=RelX fr q a c [] []
def upd (o:Ow) (k:Key) (l:List Nat):Ow:=fun k'=>if k'=k then l else o k'
theorem upd_same (o:Ow) (k:Key) (l:List Nat):upd o k l k=l:=by simp [upd]
theorem upd_other (o:Ow) {k k':Key} (l:List Nat) (h:k'≠k):upd o k l k'=o k':=by simp [upd,h]
theorem Sep.drop {o:Ow} (h:Sep o) (k:Key):Sep (upd o k []) where
 nd k':=by unfold upd;split<;>simp [h.nd]
 dj k1 k2 g h12 h1:=by
  unfold upd at h1 ⊢
  split at h1
  ·simp at h1
  ·split
   ·simp
   ·exact h.dj k1 k2 g h12 h1
theorem Sep.move {o:Ow} (h:Sep o) {k k':Key} (_hne:k≠k'):Sep (upd (upd o k' (o k)) k []) where
 nd k1:=by
  unfold upd;split
  ·simp
  ·split<;>simp [h.nd]
 dj k1 k2 g h12 h1:=by
  unfold upd at h1 ⊢
  split at h1
  ·simp at h1
  ·rename_i hk1
   split
   ·simp
   ·rename_i hk2
    split at h1
    ·rename_i e1
     split
     ·rename_i e2;exact absurd (e1.trans e2.symm) h12
     ·exact h.dj _ _ g (fun e=>hk2 e.symm) h1
    ·split
     ·exact h.dj _ _ g hk1 h1
     ·exact h.dj _ _ g h12 h1
theorem clearA_get (d:Nat):∀(A:List (Option (Nat×Nat))) (t e p:Nat),(clearA d A).getD t none=some (e,p)→A.getD t none=some (e,p)∧e≠d
 |[],t,e,p,h=>by simp [clearA] at h
 |some (e',o')::A,0,e,p,h=>by
  simp only [clearA,List.getD_cons_zero] at h ⊢
  split at h
  ·cases h
  ·rename_i hb
   cases h
   exact ⟨rfl,fun he=>by subst he;simp at hb⟩
 |none::A,0,e,p,h=>by simp [clearA] at h
 |some (e',o')::A,t+1,e,p,h=>by
  simp only [clearA,List.getD_cons_succ] at h ⊢
  exact clearA_get d A t e p h
 |none::A,t+1,e,p,h=>by
  simp only [clearA,List.getD_cons_succ] at h ⊢
  exact clearA_get d A t e p h
theorem clearA_len (d:Nat) (A:List (Option (Nat×Nat))):(clearA d A).length=A.length:=by
 induction A with
 |nil=>rfl
 |cons z A ih=>cases z with
  |none=>simp [clearA,ih]
  |some z=>obtain ⟨z1,z2⟩:=z;simp [clearA,ih]
theorem put_get_ne (a:Act) (d t:Nat) (v:Value) (h:t≠d):(a.put (some d) v).tmps.getD t undef=a.tmps.getD t undef:=by
 simp [Act.put,Array.getD_eq_getD_getElem?,Array.getElem?_setIfInBounds_ne (Ne.symm h)]
theorem put_get_eq (a:Act) (d:Nat) (v:Value) (h:d<a.tmps.size):(a.put (some d) v).tmps.getD d undef=v:=by
 simp [Act.put,Array.getD_eq_getD_getElem?,h]
theorem RelO.put {fr:Fr} {q:Q} {a:Act} {c:Cx} {x:LV} {v:Value} {o:Ow} (h:RelO fr q a c [x] [v] o) (d:Option Tmp)
  (al:Option (Nat×Nat)) (hal:∀e p,al=some (e,p)→e<q.E.length∧∃g,a.tmps.getD e undef = .pointer (some ⟨g,0,none⟩)∧v = .pointer (some ⟨g,p,none⟩)) :
  ∃o',RelO fr (q.put d x al) (a.put d v) c [] [] o':=by
 cases d with
 |none =>
  refine ⟨upd o (.arg 0) [],h.len,h.alen,fun t ht=>?_,h.al,⟨h.sto.n,fun id hid=>?_,h.sto.bd⟩,fun i hi=>absurd hi (by simp),rfl,h.sep.drop _,h.ext,fun k g hg=>?_,h.df⟩
  ·rw [upd_other _ _ (by simp)];exact h.env t ht
  ·rw [upd_other _ _ (by simp)];exact h.sto.r id hid
  ·unfold upd at hg;split at hg
   ·simp at hg
   ·exact h.own k g hg
 |some d =>
  have hlenE:(q.put (some d) x al).E.length=q.E.length:=by simp [Q.put]
  refine ⟨upd (upd o (.env d) (o (.arg 0))) (.arg 0) [],?_,?_,fun t ht=>?_,fun t e p hp=>?_,⟨h.sto.n,fun id hid=>?_,h.sto.bd⟩,fun i hi=>absurd hi (by simp),rfl,h.sep.move (by simp),h.ext,fun k g hg=>?_,h.df⟩
  ·simp [Q.put,Act.put,h.len]
  ·have:=h.alen;simp [Q.put,clearA_len];exact this
  ·rw [hlenE] at ht
   rw [upd_other _ _ (by simp)]
   by_cases e:t=d
   ·subst e
    rw [upd_same]
    have h0:=h.fly 0 (by simp)
    simp only [List.getD_cons_zero] at h0
    have ht':t<a.tmps.size:=by rw [←h.len];exact ht
    simpa [Q.put,Act.put,List.getD_eq_getElem?_getD,ht,ht',Array.getD_eq_getD_getElem?] using h0
   ·rw [upd_other _ _ (by simp [e])]
    have h0:=h.env t ht
    simpa [Q.put,Act.put,List.getD_eq_getElem?_getD,Array.getD_eq_getD_getElem?,List.getElem?_set_ne (Ne.symm e),Array.getElem?_setIfInBounds_ne (Ne.symm e)] using h0
  ·have hput:(q.put (some d) x al).A.getD t none=if t=d then (if d<q.A.length then alOk d al else none) else (clearA d q.A).getD t none:=by
    have hl:=clearA_len d q.A
    by_cases e:t=d
    ·subst e
     by_cases h2:t<q.A.length<;>simp [Q.put,List.getD_eq_getElem?_getD,hl,h2]
    ·simp [Q.put,List.getD_eq_getElem?_getD,List.getElem?_set_ne (Ne.symm e),e]
   rw [hput] at hp
   split at hp
   ·rename_i e1
    subst e1
    split at hp
    ·have hal':al=some (e,p)∧e≠t:=by
      unfold alOk at hp
      split at hp
      ·split at hp
       ·cases hp
       ·rename_i hb;cases hp;exact ⟨rfl,fun he=>by subst he;simp at hb⟩
      ·cases hp
     obtain ⟨he,g,h1,h2⟩:=hal e p hal'.1
     have hed:e≠t:=hal'.2
     rename_i hdl
     have htl:t<q.E.length:=Nat.lt_of_lt_of_le hdl h.alen
     refine ⟨by rw [hlenE];exact htl,by rw [hlenE];exact he,g,?_,?_⟩
     ·rw [put_get_ne _ _ _ _ hed];exact h1
     ·rw [put_get_eq _ _ _ (by rw [←h.len];exact htl)];exact h2
    ·cases hp
   ·rename_i e1
    obtain ⟨hp,he⟩:=clearA_get _ _ _ _ _ hp
    obtain ⟨ht,hd,g,h1,h2⟩:=h.al t e p hp
    refine ⟨by rw [hlenE];exact ht,by rw [hlenE];exact hd,g,?_,?_⟩
    ·rw [put_get_ne _ _ _ _ he];exact h1
    ·rw [put_get_ne _ _ _ _ e1];exact h2
  ·rw [upd_other _ _ (by simp),upd_other _ _ (by simp)];exact h.sto.r id hid
  ·unfold upd at hg
   split at hg
   ·simp at hg
   ·split at hg
    ·exact h.own _ g hg
    ·exact h.own k g hg
theorem rep_ofVal (c:Cx) (v:Value):Rep c (ofVal v) v []:=by
 unfold ofVal
 split
 ·exact .int _ _
 ·exact .bool _
 ·exact .str _
 ·exact .nilsl
 ·exact .nilp
 ·exact .nilm
 ·exact .nilf
 ·exact .nili
 ·exact .any _
theorem getD_toList_map (cs:Array Value) (i:Nat) (h:i<cs.size):(cs.toList.map ofVal).getD i .any=ofVal (cs.getD i undef):=by
 simp [List.getD_eq_getElem?_getD,Array.getD_eq_getD_getElem?,h]
theorem rep_const (c:Cx) (v:Value):Rep c (ev [] (.const v)) v []:=by
 cases v with
 |agg cs =>
  have:=Rep.agg (c:=c) (cs.toList.map ofVal) cs (by simp) (fun i hi=>by
   rw [getD_toList_map _ _ (by simpa using hi)];exact rep_ofVal c _)
  exact this
 |bool b=>exact rep_ofVal c (.bool b)
 |int k n=>exact rep_ofVal c (.int k n)
 |float k n=>exact rep_ofVal c (.float k n)
 |complex k n m=>exact rep_ofVal c (.complex k n m)
 |string s=>exact rep_ofVal c (.string s)
 |pointer p=>exact rep_ofVal c (.pointer p)
 |slice x n m=>exact rep_ofVal c (.slice x n m)
 |map p=>exact rep_ofVal c (.map p)
 |chan p=>exact rep_ofVal c (.chan p)
 |func f x y=>exact rep_ofVal c (.func f x y)
 |nilFunc=>exact rep_ofVal c .nilFunc
 |iface t v=>exact rep_ofVal c (.iface t v)
 |nilIface=>exact rep_ofVal c .nilIface
 |tuple x=>exact rep_ofVal c (.tuple x)
theorem getD_app_lt {α:Type} (xs ys:List α) (d:α) (i:Nat) (h:i<xs.length):(xs++ys).getD i d=xs.getD i d:=by
 simp [List.getD_eq_getElem?_getD,List.getElem?_append_left h]
theorem blt_lt {a b:Nat} (h:Nat.blt a b=true):a<b:=Nat.le_of_ble_eq_true h
theorem rep_evfunc (c:Cx) (E:List LV) (f:FuncId):Rep c (Lm.ev E (.func f)) (.func (.func f) #[] #[]) []:=by
 show Rep c (match Nat.blt f fnB with|true=>LV.fn f []|false=>LV.any) _ _
 cases hb:Nat.blt f fnB with
 |true=>exact .fn f [] #[] (blt_lt hb) rfl (fun i hi=>absurd hi (by simp))
 |false=>exact .any _
theorem ev_const (E:List LV) (v:Value):ev E (.const v)=ev [] (.const v):=rfl
section
variable {fr:Fr} {q:Q} {a:Act} {c:Cx} {xs:List LV} {vs:List Value} {o:Ow}
theorem RelO.evo (h:RelO fr q a c xs vs o) (x:Operand):∃O,Rep c (Lm.ev q.E x) (a.eval x) O:=by
 cases x with
 |tmp t =>
  by_cases ht:t<q.E.length
  ·exact ⟨_,h.env t ht⟩
  ·refine ⟨[],?_⟩
   have:ev q.E (.tmp t) = .any:=by simp [Lm.ev,List.getD_eq_getElem?_getD,List.getElem?_eq_none (Nat.le_of_not_lt ht)]
   rw [this];exact .any _
 |const v=>exact ⟨[],by rw [ev_const];exact rep_const c v⟩
 |func f=>exact ⟨[],rep_evfunc c q.E f⟩
 |global g=>exact ⟨[],.any _⟩
theorem RelO.evd (h:RelO fr q a c xs vs o) (x:Operand):Rep c (dup (Lm.ev q.E x)) (a.eval x) []:=by
 obtain ⟨O,r⟩:=h.evo x
 exact r.dup
theorem RelO.fly1 (h:RelO fr q a c xs vs o) {x:LV} {v:Value} (r:Rep c x v []):∃o',RelO fr q a c (xs++[x]) (vs++[v]) o':=by
 refine ⟨upd o (.arg xs.length) [],h.len,h.alen,fun t ht=>?_,h.al,⟨h.sto.n,fun id hid=>?_,h.sto.bd⟩,fun i hi=>?_,by simp [h.flyl],h.sep.drop _,h.ext,fun k g hg=>?_,h.df⟩
 ·rw [upd_other _ _ (by simp)];exact h.env t ht
 ·rw [upd_other _ _ (by simp)];exact h.sto.r id hid
 ·by_cases e:i=xs.length
  ·subst e;rw [upd_same];rw [←h.flyl];simpa [List.getD_eq_getElem?_getD,h.flyl] using r
  ·have hi':i<xs.length:=by simp at hi;omega
   rw [upd_other _ _ (by simp [e])]
   have:=h.fly i hi'
   rwa [getD_app_lt _ _ _ _ hi',getD_app_lt _ _ _ _ (by rw [h.flyl];exact hi')]
 ·unfold upd at hg;split at hg
  ·simp at hg
  ·exact h.own k g hg
theorem RelO.take (h:RelO fr q a c xs vs o) (x:Operand):∃o',RelO fr (q.used x) a c (xs++[Lm.ev q.E x]) (vs++[a.eval x]) o':=by
 have hconst:∀x:Operand,(∀t,x≠.tmp t)→Rep c (Lm.ev q.E x) (a.eval x) []:=fun x hx=>by
  cases x with
  |tmp t=>exact absurd rfl (hx t)
  |const v=>rw [ev_const];exact rep_const c v
  |func f=>exact rep_evfunc c q.E f
  |global g=>exact .any _
 cases x with
 |const v=>exact h.fly1 (hconst _ (by simp))
 |func f=>exact h.fly1 (hconst _ (by simp))
 |global g=>exact h.fly1 (hconst _ (by simp))
 |tmp t =>
  by_cases ht:t<q.E.length
  case neg =>
   have hE:(q.used (.tmp t))=q:=by
    have:q.E.set t (dup (q.E.getD t .any))=q.E:=List.set_eq_of_length_le (Nat.le_of_not_lt ht)
    simp only [Q.used,this]
   rw [hE]
   refine h.fly1 ?_
   have:Lm.ev q.E (.tmp t) = .any:=by simp [Lm.ev,List.getD_eq_getElem?_getD,List.getElem?_eq_none (Nat.le_of_not_lt ht)]
   rw [this];exact .any _
  have hlenE:(q.used (.tmp t)).E.length=q.E.length:=by simp [Q.used]
  refine ⟨upd (upd o (.arg xs.length) (o (.env t))) (.env t) [],by rw [hlenE];exact h.len,by rw [hlenE];exact h.alen,fun t' ht'=>?_,fun t' d p hp=>?_,⟨h.sto.n,fun id hid=>?_,h.sto.bd⟩,fun i hi=>?_,by simp [h.flyl],h.sep.move (by simp),h.ext,fun k g hg=>?_,h.df⟩
  ·rw [hlenE] at ht'
   by_cases e:t'=t
   ·subst e
    rw [upd_same]
    have:=(h.env t' ht').dup
    simpa [Q.used,List.getD_eq_getElem?_getD,ht'] using this
   ·rw [upd_other _ _ (by simp [e]),upd_other _ _ (by simp)]
    have:=h.env t' ht'
    simpa [Q.used,List.getD_eq_getElem?_getD,List.getElem?_set_ne (Ne.symm e)] using this
  ·rw [hlenE];exact h.al t' d p hp
  ·rw [upd_other _ _ (by simp),upd_other _ _ (by simp)];exact h.sto.r id hid
  ·rw [upd_other _ _ (by simp)]
   by_cases e:i=xs.length
   ·subst e;rw [upd_same];have:=h.env t ht;rw [←h.flyl];simpa [List.getD_eq_getElem?_getD,h.flyl,Lm.ev,Act.eval] using this
   ·have hi':i<xs.length:=by simp at hi;omega
    rw [upd_other _ _ (by simp [e])]
    have:=h.fly i hi'
    rwa [getD_app_lt _ _ _ _ hi',getD_app_lt _ _ _ _ (by rw [h.flyl];exact hi')]
  ·unfold upd at hg
   split at hg
   ·simp at hg
   ·split at hg
    ·exact h.own _ g hg
    ·exact h.own k g hg
theorem RelO.takes:∀(l:List Operand) {q:Q} {xs:List LV} {vs:List Value} {o:Ow},RelO fr q a c xs vs o →
  ∃o',RelO fr (takes l q).2 a c (xs++(takes l q).1) (vs++l.map a.eval) o'
 |[],q,xs,vs,o,h=>⟨o,by simpa [Lm.takes] using h⟩
 |x::l,q,xs,vs,o,h=>by
  obtain ⟨o1,h1⟩:=h.take x
  obtain ⟨o2,h2⟩:=RelO.takes l h1
  exact ⟨o2,by simpa [Lm.takes] using h2⟩
theorem RelO.move {c':Cx} {M:Nat→Prop} (h:RelO fr q a c xs vs o) (he:Ext c c' M) (hM:∀b,M b→c.w.heap.size≤b∨(∀k,b∉o k)∧(fr.M b∨fr.c.w.heap.size≤b)) (hn:c'.n=c.n)
  (hbd:∀b p,c'.I b p→b<c'.w.heap.size):RelO fr q a c' xs vs o:=by
 have hO:∀k g,g∈o k→g<c.w.heap.size→¬ M g:=fun k g hg hlt hm=>by
  rcases hM g hm with h1|h1
  ·omega
  ·exact h1.1 k hg
 have rep:∀{x:LV} {v:Value} {k:Key},Rep c x v (o k)→Rep c' x v (o k):=fun {x v k} r=>r.ext he (fun g hg=>hO k g hg (r.lt g hg))
 refine ⟨h.len,h.alen,fun t ht=>rep (h.env t ht),h.al,⟨by rw [hn];exact h.sto.n,fun id hid=>?_,hbd⟩,fun i hi=>rep (h.fly i hi),h.flyl,h.sep,?_,fun k g hg=>⟨Nat.lt_of_lt_of_le (h.own k g hg).1 he.size,(h.own k g hg).2⟩,h.df⟩
 ·rw [he.ι id (by rw [h.sto.n];exact hid)];exact rep (h.sto.r id hid)
 ·refine h.ext.trans he (fun b hb hm=>?_)
  rcases hM b hm with h1|h1
  ·have:=h.ext.size;omega
  ·rcases h1.2 with h2|h2
   ·exact h2
   ·omega
end
end Go.Lm
namespace Go.Lm
def kdOf:TypeDesc→KD
 | .int k=>.int k
 | .bool=>.bool
 | .string=>.str
 | .slice _=>.slice
 | .struct _=>.struct
 | .array _ _=>.array
 | .pointer _=>.ptr
 | .map _ _=>.map
 | .func _ _ _=>.func
 | .interface _=>.iface
 |_=>.oth
def lkOf (P:Program):Nat→TypeId→List LK
 |0,_=>[]
 |n+1,t=>match P.underlying t with
  |some (.int k)=>[.int k]
  |some .bool=>[.bool]
  |some .string=>[.str]
  |some (.slice e)=>[.sl (P.cellsOf e)]
  |some (.struct fs)=>fs.toList.flatMap fun f=>lkOf P n f.type
  |some (.array len e)=>(List.replicate len (lkOf P n e)).flatten
  |some (.pointer _)=>[.ptr]
  |some (.map _ _)=>[.map]
  |some (.func _ _ _)=>[.fn]
  |_=>[.oth]
def zeroOk (i:TypeInfo):Option (List LV):=match i.zero with
 |some z=>match Nat.beq z.cells.size i.size&&z.cells.all (·.oneCell') with
  |true=>some (z.cells.toList.map ofVal)
  |false=>none
 |none=>none
def eqKs (P:Program):Nat→List Field→Option (List LK)
 |_,[]=>some []
 |i,f::fs=>match Nat.beq f.offset i&&!(f.name == "_"),P.underlying f.type with
  |true,some (.int k)=>(eqKs P (i+1) fs).map (.int k::·)
  |true,some .bool=>(eqKs P (i+1) fs).map (.bool::·)
  |true,some .string=>(eqKs P (i+1) fs).map (.str::·)
  |_,_=>none
def structEq (P:Program) (t:TypeId) (fs:Array Field):Option (List LK):=match !(P.stoodInHeld t)&&!(P.eqGuardType P.depth t) with
 |true=>eqKs P 0 fs.toList
 |false=>none
def zvOf (i:TypeInfo):LV:=match i.zero with
 |some z=>ev [] (.const z)
 |none=>.any
def tiOf (P:Program) (t:TypeId):Option TI:=match P.info? t,P.underlying t with
 |some i,some d=>match zeroOk i,Nat.beq (lkOf P 12 t).length i.size with
  |some z,true=>match d with
   | .slice e=>(match (P.info? e),(P.info? e).bind zeroOk with
    |some j,some _=>some { kd:=.slice,lk:=lkOf P 12 t,zero:=z,esz:=j.size,ebytes:=j.bytes,el:=e,zv:=zvOf i }
    |_,_=>none)
   | .struct fs=>(match fs.toList.all (fun f=>!Nat.beq (P.cellsOf f.type) 0) with
    |true=>some { kd:=.struct,lk:=lkOf P 12 t,zero:=z,fs:=fs.toList.map fun f=>(f.offset,P.cellsOf f.type,f.type),eq:=structEq P t fs,zv:=zvOf i }
    |false=>none)
   | .array n e=>some { kd:=.array,lk:=lkOf P 12 t,zero:=z,el:=e,len:=n,esz:=P.cellsOf e,zv:=zvOf i }
   | .map k e=>some { kd:=.map,lk:=lkOf P 12 t,zero:=z,el:=e,key:=k,zv:=zvOf i }
   |d=>some { kd:=kdOf d,lk:=lkOf P 12 t,zero:=z,zv:=zvOf i }
  |_,_=>none
 |_,_=>none
def LCalls (P:Program) (f:FuncId) (args S:List LV) (r:LV) (S':List LV):Prop :=
 ∀(c:Cx) (vs:List Value) (o:Ow),vs.length=args.length→(∀i,i<args.length→Rep c (args.getD i .any) (vs.getD i undef) (o (.arg i)))→Sto c S o→Sep o→(∀k g,g∈o k→g<c.w.heap.size) →
  Calls P f vs.toArray c.w fun e w'=>∃c' v o',e = .returned v∧c'.w=w'∧Ext c c' (fun g=>∃k,g∈o k)∧Rep c' r v (o' (.arg 0))∧Sto c' S' o'∧Sep o' ∧
   (∀k g,g∈o' k→g<w'.heap.size∧((∃k',g∈o k')∨c.w.heap.size≤g))∧∀t,o' (.env t)=[]
def Enters (P:Program) (f:FuncId):Prop:=∀args w,(callFunc f args).run P w = .ok (.enter f args) w
def HSound (P:Program) (f:FuncId) {R:Type} (h:Hd R):Prop :=
 ∀args S K r,h args S K=some r→Enters P f∧∃v S',LCalls P f args S v S'∧K v S'=some r
section
variable {R:Type} {P:Program} {T:Nat→Option TI} {C:Nat→Hd R}
def OpOk (P:Program) (q:Q) (o:Oper) (x:LV) (al:Option (Nat×Nat)) (q':Q):Prop :=
 ∀(fr:Fr) (a:Act) (c:Cx),Rel fr q a c→∀(next:Act→World→Prop) (Qp:Exit→Act→World→Prop),
  (∀c' v,RelX fr q' a c' [x] [v]→(∀e p,al=some (e,p)→e<q'.E.length∧∃g,a.tmps.getD e undef = .pointer (some ⟨g,0,none⟩)∧v = .pointer (some ⟨g,p,none⟩))→next (a.put o.dst v) c'.w) →
  o.wp P a c.w next Qp
theorem ifB_some {c:Bool} {t e:Option R} {r:R} (h:ifB c t e=some r):(c=true∧t=some r)∨(c=false∧e=some r):=by
 cases c
 ·exact .inr ⟨rfl,h⟩
 ·exact .inl ⟨rfl,h⟩
theorem asBool_some {v:LV} {K:Bool→Option R} {r:R} (h:asBool v K=some r):∃b,v = .bool b∧K b=some r:=by
 cases v<;>simp [asBool] at h
 exact ⟨_,rfl,h⟩
theorem rep_bool {c:Cx} {b:Bool} {v:Value} {O:List Nat} (h:Rep c (.bool b) v O):v = .bool b:=by cases h;rfl
theorem rep_int {c:Cx} {k:IntKind} {n:Int} {v:Value} {O:List Nat} (h:Rep c (.int k n) v O):v = .int k n:=by cases h;rfl
theorem rep_str {c:Cx} {s:ByteArray} {v:Value} {O:List Nat} (h:Rep c (.str s) v O):v = .string s:=by cases h;rfl
theorem ikN_inj {k k':IntKind} (h:Nat.beq (ikN k') (ikN k)=true):k'=k:=by
 have:=Nat.eq_of_beq_eq_true h
 cases k<;>cases k'<;>first|rfl|(simp [ikN] at this)
theorem asInt_some {k:IntKind} {v:LV} {K:Int→Option R} {r:R} (h:asInt k v K=some r):∃n,v = .int k n∧K n=some r:=by
 cases v<;>simp only [asInt] at h<;>try (cases h;done)
 rcases ifB_some h with ⟨h1,h2⟩|⟨_,h2⟩
 ·have:=ikN_inj h1;subst this;exact ⟨_,rfl,h2⟩
 ·cases h2
theorem asStr_some {v:LV} {K:ByteArray→Option R} {r:R} (h:asStr v K=some r):∃s,v = .str s∧K s=some r:=by
 cases v<;>simp [asStr] at h
 exact ⟨_,rfl,h⟩
theorem asFn_some {v:LV} {K:FuncId→List LV→Option R} {r:R} (h:asFn v K=some r):∃f cs,v = .fn f cs∧K f cs=some r:=by
 cases v<;>simp [asFn] at h
 exact ⟨_,_,rfl,h⟩
theorem asPtr_some {v:LV} {K:Nat→Nat→Option R} {r:R} (h:asPtr v K=some r):∃i o,v = .ptr i o∧K i o=some r:=by
 cases v<;>simp [asPtr] at h
 exact ⟨_,_,rfl,h⟩
theorem asMap_some {v:LV} {K:Nat→Option R} {r:R} (h:asMap v K=some r):∃i,v = .map i∧K i=some r:=by
 cases v<;>simp [asMap] at h
 exact ⟨_,rfl,h⟩
theorem mat_some {n:Nat} {v:LV} {K:List LV→Option R} {r:R} (h:mat n v K=some r):∃xs,v = .agg xs∧xs.length=n∧K xs=some r:=by
 cases v<;>simp only [mat] at h<;>try (cases h;done)
 rcases ifB_some h with ⟨h1,h⟩|⟨_,h⟩
 ·exact ⟨_,rfl,Nat.eq_of_beq_eq_true h1,h⟩
 ·cases h
theorem asSl_some {sz:Nat} {v:LV} {K:List LV→Option R} {r:R} (h:asSl sz v K=some r) :
  ∃xs,K xs=some r∧∀{c:Cx} {w:Value} {O:List Nat},Rep c v w O→Rep c (.sl sz xs) w []:=by
 cases v<;>simp only [asSl] at h<;>try (cases h;done)
 ·exact ⟨[],h,fun r=>by cases r;exact .sl0 _ _ _ (fun _=>rfl)⟩
 ·rcases ifB_some h with ⟨h1,h2⟩|⟨_,h2⟩
  ·have:=Nat.eq_of_beq_eq_true h1;subst this;exact ⟨_,h2,fun r=>r.dup⟩
  ·cases h2
 ·rcases ifB_some h with ⟨h1,h2⟩|⟨_,h2⟩
  ·have:=Nat.eq_of_beq_eq_true h1;subst this;exact ⟨_,h2,fun r=>r.dup⟩
  ·cases h2
 ·rcases ifB_some h with ⟨h1,h2⟩|⟨_,h2⟩
  ·have:=Nat.eq_of_beq_eq_true h1;subst this;exact ⟨_,h2,fun r=>by cases r;assumption⟩
  ·cases h2
end
end Go.Lm
namespace Go.Lm
section
variable {R:Type} {P:Program} {T:Nat→Option TI} {C:Nat→Hd R}
theorem op_val {q q':Q} {o:Oper} {x:LV} {al:Option (Nat×Nat)}
  (h:∀(fr:Fr) (a:Act) (c:Cx),Rel fr q a c→∃c' v,(execOp a.eval o).run P c.w = .ok (.value v) c'.w∧RelX fr q' a c' [x] [v] ∧
   ∀e p,al=some (e,p)→e<q'.E.length∧∃g,a.tmps.getD e undef = .pointer (some ⟨g,0,none⟩)∧v = .pointer (some ⟨g,p,none⟩)):OpOk P q o x al q':=by
 intro fr a c hr next Qp hn
 obtain ⟨c',v,h1,h2,h3⟩:=h fr a c hr
 unfold Oper.wp
 rw [h1]
 exact hn c' v h2 h3
theorem op_pure {q:Q} {o:Oper} {x:LV}
  (h:∀(fr:Fr) (a:Act) (c:Cx),Rel fr q a c→∃v,(execOp a.eval o).run P c.w = .ok (.value v) c.w∧Rep c x v []):OpOk P q o x none q:=by
 refine op_val fun fr a c hr=>?_
 obtain ⟨v,h1,h2⟩:=h fr a c hr
 obtain ⟨ow,hr⟩:=hr
 exact ⟨c,v,h1,hr.fly1 h2,fun _ _ h=>by cases h⟩
theorem Rel.evd {fr:Fr} {q:Q} {a:Act} {c:Cx} (h:Rel fr q a c) (x:Operand):Rep c (dup (ev q.E x)) (a.eval x) []:=by
 obtain ⟨o,h⟩:=h
 exact h.evd x
theorem Rel.evr {fr:Fr} {q:Q} {a:Act} {c:Cx} (h:Rel fr q a c) (x:Operand):∃O,Rep c (ev q.E x) (a.eval x) O:=by
 obtain ⟨o,h⟩:=h
 exact h.evo x
theorem Rel.evInt {fr:Fr} {q:Q} {a:Act} {c:Cx} (h:Rel fr q a c) {x:Operand} {k:IntKind} {n:Int} (he:ev q.E x = .int k n):a.eval x = .int k n:=by
 obtain ⟨O,r⟩:=h.evr x
 rw [he] at r
 exact rep_int r
theorem Rel.evBool {fr:Fr} {q:Q} {a:Act} {c:Cx} (h:Rel fr q a c) {x:Operand} {b:Bool} (he:ev q.E x = .bool b):a.eval x = .bool b:=by
 obtain ⟨O,r⟩:=h.evr x
 rw [he] at r
 exact rep_bool r
theorem Rel.evStr {fr:Fr} {q:Q} {a:Act} {c:Cx} (h:Rel fr q a c) {x:Operand} {s:ByteArray} (he:ev q.E x = .str s):a.eval x = .string s:=by
 obtain ⟨O,r⟩:=h.evr x
 rw [he] at r
 exact rep_str r
theorem ok_assign {o:Oper} {q:Q} {x:Operand} (ho:o.op = .assign x):OpOk P q o (ev q.E x) none (q.used x) :=
 op_val fun fr a c hr=>⟨c,a.eval x,by simp [execOp,ho],by
  obtain ⟨ow,hr⟩:=hr
  exact hr.take x,fun _ _ h=>by cases h⟩
theorem ok_pick {o:Oper} {q:Q} {cc x y:Operand} {b:Bool} (ho:o.op = .pick cc x y) (hb:ev q.E cc = .bool b):OpOk P q o (dup (ev q.E (if b then x else y))) none q :=
 op_pure fun fr a c hr=>⟨a.eval (if b then x else y),by
  have:=hr.evBool hb
  cases b<;>simp [execOp,ho,this,Go.asBool],hr.evd _⟩
theorem intBin_some {op:BinOp} {k:IntKind} {m n:Int} {K:LV→Option R} {r:R} (h:intBin op k m n K=some r) :
  ∃x,K x=some r∧∀(t:TypeId) (x' y':Operand) (w:World) (c:Cx),∃v,(do eqGuard op t x' y' (.int k m) (.int k n);binOp op t (.int k m) (.int k n):Sem Value).run P w = .ok v w∧Rep c x v []:=by
 cases op<;>simp only [intBin] at h<;>try (cases h;done)
 case quo =>
  rcases ifB_some h with ⟨_,h2⟩|⟨h1,h2⟩
  ·cases h2
  ·have h1:=of_decide_eq_false h1
   refine ⟨_,h2,fun t x' y' w c=>⟨_,?_,.int _ _⟩⟩
   simp [eqGuard,binOp,Op.intDiv,h1]
 case rem =>
  rcases ifB_some h with ⟨_,h2⟩|⟨h1,h2⟩
  ·cases h2
  ·have h1:=of_decide_eq_false h1
   refine ⟨_,h2,fun t x' y' w c=>⟨_,?_,.int _ _⟩⟩
   simp [eqGuard,binOp,Op.intDiv,h1]
 all_goals
  refine ⟨_,h,fun t x' y' w c=>⟨_,?_,by first|exact .int _ _|exact .bool _⟩⟩
  simp [eqGuard,binOp,Op.intArith,Op.intCmp,Op.intBits,bitI]
  try rfl
theorem shift_run {op:BinOp} {k k':IntKind} {m n:Int} (hs:isShift op=true) (hn:¬ n<0) (t:TypeId) (x' y':Operand) (w:World) :
  (do eqGuard op t x' y' (.int k m) (.int k' n);binOp op t (.int k m) (.int k' n):Sem Value).run P w = .ok (.int k (shI op k m n)) w:=by
 cases op<;>simp [isShift] at hs<;>simp [eqGuard,binOp,Op.shift,hn,shI]
theorem strBin_some {op:BinOp} {m n:ByteArray} {K:LV→Option R} {r:R} (h:strBin op m n K=some r) :
  ∃x,K x=some r∧∀(t:TypeId) (x' y':Operand) (w:World) (c:Cx),∃v,(do eqGuard op t x' y' (.string m) (.string n);binOp op t (.string m) (.string n):Sem Value).run P w = .ok v w∧Rep c x v []:=by
 cases op<;>simp only [strBin] at h<;>try (cases h;done)
 case add =>
  unfold catStr at h
  rcases ifB_some h with ⟨h1,h⟩|⟨_,h⟩
  ·refine ⟨_,h,fun t x' y' w c=>⟨.string (m++n),?_,.str _⟩⟩
   have h1:=of_decide_eq_true h1
   have:¬ (9223372036854775807<((m.size:Int)+(n.size:Int))):=by omega
   simp [eqGuard_at_string,binOp,Op.stringOp,this]
  ·cases h
 all_goals
  refine ⟨_,h,fun t x' y' w c=>⟨_,?_,by first|exact .bool _⟩⟩
  simp [eqGuard_at_string,binOp,Op.stringOp,strEq,strLt]
  try rfl
theorem boolBin_some {op:BinOp} {m n:Bool} {K:LV→Option R} {r:R} (h:boolBin op m n K=some r) :
  ∃x,K x=some r∧∀(t:TypeId) (_:P.underlying t=some .bool) (x' y':Operand) (w:World) (c:Cx),∃v,(do eqGuard op t x' y' (.bool m) (.bool n);binOp op t (.bool m) (.bool n):Sem Value).run P w = .ok v w∧Rep c x v []:=by
 have e:∀t w,P.underlying t=some .bool→(Op.equal t (.bool m) (.bool n)).run P w = .ok (m==n) w:=fun t w ht=>run_equalIn_bool' w 9999 t m n ht
 cases op<;>simp only [boolBin] at h<;>try (cases h;done)
 ·refine ⟨_,h,fun t ht x' y' w c=>⟨.bool (m==n),?_,.bool _⟩⟩
  rw [eqGuard_at_bool]
  show ((do pure (.bool (←Op.equal t (.bool m) (.bool n))):Sem Value)).run P w=_
  simp [e t w ht]
 ·refine ⟨_,h,fun t ht x' y' w c=>⟨.bool (!(m==n)),?_,.bool _⟩⟩
  rw [eqGuard_at_bool]
  show ((do pure (.bool (!(←Op.equal t (.bool m) (.bool n)))):Sem Value)).run P w=_
  simp [e t w ht]
theorem tiOf_und {t:TypeId} {ti:TI} (h:tiOf P t=some ti):∃i d,P.info? t=some i∧P.underlying t=some d∧ti.kd=kdOf d∧ti.lk.length=i.size∧∃z,i.zero=some z∧z.cells.size=i.size∧(∀p,p<z.cells.size→(z.cells.getD p undef).oneCell'=true)∧ti.zero=z.cells.toList.map ofVal:=by
 unfold tiOf at h
 split at h
 ·rename_i i d hi hd
  split at h
  ·rename_i z hz hl
   have hz':∃z',i.zero=some z'∧z'.cells.size=i.size∧(∀p,p<z'.cells.size→(z'.cells.getD p undef).oneCell'=true)∧z=z'.cells.toList.map ofVal:=by
    unfold zeroOk at hz
    split at hz
    ·rename_i z' hz'
     split at hz
     ·rename_i hb
      cases hz
      rw [Bool.and_eq_true] at hb
      refine ⟨z',hz',Nat.eq_of_beq_eq_true hb.1,fun p hp=>?_,rfl⟩
      have:=(Array.all_eq_true.1 hb.2) p hp
      simpa [Array.getD_eq_getD_getElem?,hp] using this
     ·cases hz
    ·cases hz
   obtain ⟨z',h1,h2,h3,h4⟩:=hz'
   have hl:=Nat.eq_of_beq_eq_true hl
   refine ⟨i,d,hi,hd,?_⟩
   split at h
   ·split at h
    ·cases h;exact ⟨rfl,hl,z',h1,h2,h3,h4⟩
    ·cases h
   ·split at h
    ·cases h;exact ⟨rfl,hl,z',h1,h2,h3,h4⟩
    ·cases h
   ·cases h;exact ⟨rfl,hl,z',h1,h2,h3,h4⟩
   ·cases h;exact ⟨rfl,hl,z',h1,h2,h3,h4⟩
   ·cases h;exact ⟨rfl,hl,z',h1,h2,h3,h4⟩
  ·cases h
 ·cases h
theorem tiOf_slice {t:TypeId} {ti:TI} (h:tiOf P t=some ti) (hk:ti.kd = .slice):∃e j,P.underlying t=some (.slice e)∧P.info? e=some j∧ti.esz=j.size∧ti.ebytes=j.bytes∧ti.el=e∧∃z,j.zero=some z∧z.cells.size=j.size∧∀p,p<z.cells.size→(z.cells.getD p undef).oneCell'=true:=by
 unfold tiOf at h
 split at h
 ·rename_i i d hi hd
  split at h
  ·split at h
   ·rename_i e
    split at h
    ·rename_i j zz hj hz
     cases h
     refine ⟨e,j,hd,hj,rfl,rfl,rfl,?_⟩
     rw [hj] at hz
     simp only [Option.bind_some] at hz
     unfold zeroOk at hz
     split at hz
     ·rename_i z' hz'
      split at hz
      ·rename_i hb
       rw [Bool.and_eq_true] at hb
       refine ⟨z',hz',Nat.eq_of_beq_eq_true hb.1,fun p hp=>?_⟩
       have:=(Array.all_eq_true.1 hb.2) p hp
       simpa [Array.getD_eq_getD_getElem?,hp] using this
      ·cases hz
     ·cases hz
    ·cases h
   ·split at h
    ·cases h;cases hk
    ·cases h
   ·cases h;cases hk
   ·cases h;cases hk
   ·rename_i d' _ _ _ _
    cases h
    exfalso
    cases d<;>simp [kdOf] at hk<;>simp_all
  ·cases h
 ·cases h
theorem kdOf_int {d:TypeDesc} {k:IntKind} (h:KD.int k=kdOf d):d = .int k:=by cases d<;>simp [kdOf] at h;rw [h]
theorem kdOf_str {d:TypeDesc} (h:KD.str=kdOf d):d = .string:=by cases d<;>simp [kdOf] at h;rfl
theorem kdOf_bool {d:TypeDesc} (h:KD.bool=kdOf d):d = .bool:=by cases d<;>simp [kdOf] at h;rfl
theorem kdOf_slice {d:TypeDesc} (h:KD.slice=kdOf d):∃e,d = .slice e:=by cases d<;>simp [kdOf] at h;exact ⟨_,rfl⟩
theorem asI_some {v:LV} {K:Int→Option R} {r:R} (h:asI v K=some r):∃k n,v = .int k n∧K n=some r:=by
 cases v<;>simp [asI] at h
 exact ⟨_,_,rfl,h⟩
theorem isNil_some {v:LV} {K:Bool→Option R} {r:R} (h:isNil v K=some r) :
  ∃b,K b=some r∧∀{c:Cx} {w:Value} {O:List Nat},Rep c v w O→∃a n cap,w = .slice a n cap∧b=a.isNone:=by
 unfold isNil at h
 split at h
 ·exact ⟨_,h,fun r=>by cases r;exact ⟨_,_,_,rfl,rfl⟩⟩
 ·exact ⟨_,h,fun r=>by cases r;subst_vars;exact ⟨_,_,_,rfl,rfl⟩⟩
 ·exact ⟨_,h,fun r=>by cases r;exact ⟨_,_,_,rfl,rfl⟩⟩
 ·exact ⟨_,h,fun r=>by cases r;exact ⟨_,_,_,rfl,rfl⟩⟩
 ·exact ⟨_,h,fun r=>by cases r;exact ⟨_,_,_,rfl,rfl⟩⟩
 ·cases h
theorem nilEq (d:Nat) {t e:TypeId} (ht:P.underlying t=some (.slice e)) (a:Option Addr) (n cap:Nat) (w:World):(Op.equalIn (d+1) t (.slice a n cap) (.slice none 0 0)).run P w = .ok a.isNone w:=by
 cases a<;>simp [Op.equalIn,run_underlying ht]
theorem boolBin_nil {op:BinOp} {b:Bool} {K:LV→Option R} {r:R} (h:boolBin op b true K=some r) :
  ∃x,K x=some r∧∀(t e:TypeId),P.underlying t=some (.slice e)→∀(x' y':Operand) (a:Option Addr) (n cap:Nat),b=a.isNone→∀(w:World) (c:Cx),
   ∃v,(do eqGuard op t x' y' (.slice a n cap) (.slice none 0 0);binOp op t (.slice a n cap) (.slice none 0 0):Sem Value).run P w = .ok v w∧Rep c x v []:=by
 cases op<;>simp only [boolBin] at h<;>try (cases h;done)
 all_goals
  refine ⟨_,h,fun t e ht x' y' a n cap hb w c=>⟨_,?_,.bool _⟩⟩
  subst hb
  simp only [binOp,Op.equal,Op.maxDepth]
  rw [Sem.run_bind]
  simp [eqGuard,nilEq _ ht]
theorem isNilP_some {v:LV} {K:Bool→Option R} {r:R} (h:isNilP v K=some r) :
  ∃b,K b=some r∧∀{c:Cx} {w:Value} {O:List Nat},Rep c v w O→∃a,w = .pointer a∧b=a.isNone:=by
 unfold isNilP at h
 split at h
 ·exact ⟨_,h,fun r=>by cases r;exact ⟨_,rfl,rfl⟩⟩
 ·exact ⟨_,h,fun r=>by cases r;exact ⟨_,rfl,rfl⟩⟩
 ·exact ⟨_,h,fun r=>by cases r;exact ⟨_,rfl,rfl⟩⟩
 ·cases h
theorem kdOf_ptr {d:TypeDesc} (h:KD.ptr=kdOf d):∃e,d = .pointer e:=by cases d<;>simp [kdOf] at h;exact ⟨_,rfl⟩
theorem nilEqP (d:Nat) {t e:TypeId} (ht:P.underlying t=some (.pointer e)) (a:Option Addr) (w:World):(Op.equalIn (d+1) t (.pointer a) (.pointer none)).run P w = .ok a.isNone w:=by
 cases a<;>simp [Op.equalIn,run_underlying ht]
theorem boolBin_nilP {op:BinOp} {b:Bool} {K:LV→Option R} {r:R} (h:boolBin op b true K=some r) :
  ∃x,K x=some r∧∀(t e:TypeId),P.underlying t=some (.pointer e)→∀(x' y':Operand) (a:Option Addr),b=a.isNone→∀(w:World) (c:Cx),
   ∃v,(do eqGuard op t x' y' (.pointer a) (.pointer none);binOp op t (.pointer a) (.pointer none):Sem Value).run P w = .ok v w∧Rep c x v []:=by
 cases op<;>simp only [boolBin] at h<;>try (cases h;done)
 all_goals
  refine ⟨_,h,fun t e ht x' y' a hb w c=>⟨_,?_,.bool _⟩⟩
  subst hb
  simp only [binOp,Op.equal,Op.maxDepth]
  rw [Sem.run_bind]
  simp [eqGuard,nilEqP _ ht]
theorem rep_nilp {c:Cx} {v:Value} {O:List Nat} (h:Rep c .nilp v O):v = .pointer none:=by cases h;rfl
theorem rep_nilsl {c:Cx} {v:Value} {O:List Nat} (h:Rep c .nilsl v O):v = .slice none 0 0:=by cases h;rfl
theorem rep_agg {c:Cx} {xs:List LV} {v:Value} {O:List Nat} (h:Rep c (.agg xs) v O):∃cs,v = .agg cs∧cs.size=xs.length∧∀i,i<xs.length→Rep c (xs.getD i .any) (cs.getD i undef) []:=by
 cases h;exact ⟨_,rfl,by assumption,by assumption⟩
theorem boolBin_struct {op:BinOp} {b:Bool} {K:LV→Option R} {r:R} (h:boolBin op b true K=some r) :
  ∃x,K x=some r∧∀(t:TypeId) (x' y':Operand) (cs ds:Array Value) (w:World),(Op.equalIn 10000 t (.agg cs) (.agg ds)).run P w = .ok b w→P.eqGuardType P.depth t=false→∀(c:Cx),
   ∃v,(do eqGuard op t x' y' (.agg cs) (.agg ds);binOp op t (.agg cs) (.agg ds):Sem Value).run P w = .ok v w∧Rep c x v []:=by
 cases op<;>simp only [boolBin] at h<;>try (cases h;done)
 all_goals
  refine ⟨_,h,fun t x' y' cs ds w he hg c=>⟨_,?_,.bool _⟩⟩
  rw [Sem.run_bind,run_eqGuard_agg w _ t x' y' cs ds hg]
  simp only [Result.andThen_ok]
  first|rw [run_eql_struct]|rw [run_neq_struct]
  rw [he]
  simp [Result.andThen_ok]
theorem tiOf_eq {t:TypeId} {ti:TI} {ls:List LK} (h:tiOf P t=some ti) (hl:ti.eq=some ls):∃fs,P.underlying t=some (.struct fs)∧P.stoodInHeld t=false∧P.eqGuardType P.depth t=false∧eqKs P 0 fs.toList=some ls:=by
 unfold tiOf at h
 split at h
 ·rename_i i d hi hd
  split at h
  ·split at h
   ·split at h
    ·cases h;cases hl
    ·cases h
   ·rename_i fs
    split at h
    ·cases h
     simp only [structEq] at hl
     split at hl
     ·rename_i hz
      simp only [Bool.and_eq_true,Bool.not_eq_true'] at hz
      exact ⟨fs,hd,hz.1,hz.2,hl⟩
     ·cases hl
    ·cases h
   ·cases h;cases hl
   ·cases h;cases hl
   ·cases h;cases hl
  ·cases h
 ·cases h
theorem part_one {t:TypeId} {d:TypeDesc} (hd:P.underlying t=some d) (hk:isAggK (kdOf d)=false) (cs:Array Value) (i:Nat) (hi:i<cs.size) (w:World):(Go.part t cs i).run P w = .ok (cs.getD i undef) w:=by
 have h2:(isAgg t).run P w = .ok false w:=by
  cases d<;>simp [kdOf,isAggK] at hk<;>simp [isAgg,run_underlying hd]
 simp [Go.part,h2,hi,Array.getD_eq_getD_getElem?]
theorem eqLs_run:∀{i:Nat} {fs:List Field} {ls:List LK} {xs ys:List LV} {K:Bool→Option R} {r:R},eqKs P i fs=some ls→eqLs ls xs ys K=some r →
  ∃b,K b=some r∧∀{c:Cx} {cs ds:Array Value},(∀j,j<ls.length→Rep c (xs.getD j .any) (cs.getD (i+j) undef) [])→(∀j,j<ls.length→Rep c (ys.getD j .any) (ds.getD (i+j) undef) []) →
   i+ls.length≤cs.size→i+ls.length≤ds.size→∀(d:Nat) (w:World),(Op.eqFields (d+1) cs ds fs).run P w = .ok b w
 |i,[],ls,xs,ys,K,r,hk,h=>by
  cases hk
  cases xs<;>cases ys<;>simp only [eqLs] at h<;>try (cases h;done)
  exact ⟨true,h,fun _ _ _ _ d w=>by simp [Op.eqFields]⟩
 |i,f::fs,ls,xs,ys,K,r,hk,h=>by
  simp only [eqKs] at hk
  have fin:∀{l:LK} {x y:LV} {xs ys:List LV} {ls:List LK} {e:Bool} {dd:TypeDesc} (ho:(Nat.beq f.offset i&&!(f.name == "_"))=true) (hd:P.underlying f.type=some dd) (ha:isAggK (kdOf dd)=false)
    (hks:eqKs P (i+1) fs=some ls) (h:eqLs ls xs ys (fun r=>K (e&&r))=some r)
    (he:∀{c:Cx} {u v:Value},Rep c x u []→Rep c y v []→∀(d:Nat) (w:World),(Op.equalIn (d+1) f.type u v).run P w = .ok e w),
    ∃b,K b=some r∧∀{c:Cx} {cs ds:Array Value},(∀j,j<(l::ls).length→Rep c ((x::xs).getD j .any) (cs.getD (i+j) undef) [])→(∀j,j<(l::ls).length→Rep c ((y::ys).getD j .any) (ds.getD (i+j) undef) []) →
     i+(l::ls).length≤cs.size→i+(l::ls).length≤ds.size→∀(d:Nat) (w:World),(Op.eqFields (d+1) cs ds (f::fs)).run P w = .ok b w:=by
   intro l x y xs ys ls e dd ho hd ha hks h he
   obtain ⟨b,h,hb⟩:=eqLs_run hks h
   simp only [Bool.and_eq_true,Bool.not_eq_true'] at ho
   have hoff:=Nat.eq_of_beq_eq_true ho.1
   have hn:f.name≠"_":=by simpa using ho.2
   refine ⟨e&&b,h,fun hx hy hc hdz d w=>?_⟩
   rename_i c cs ds
   simp only [List.length_cons] at hx hy hc hdz
   have hx0:=hx 0 (by omega)
   have hy0:=hy 0 (by omega)
   simp only [Nat.add_zero,List.getD_cons_zero] at hx0 hy0
   have rest:=hb (c:=c) (cs:=cs) (ds:=ds) (fun j hj=>by have:=hx (j+1) (by omega);rw [List.getD_cons_succ] at this;rwa [show i+1+j=i+(j+1) by omega]) (fun j hj=>by have:=hy (j+1) (by omega);rw [List.getD_cons_succ] at this;rwa [show i+1+j=i+(j+1) by omega]) (by omega) (by omega) d w
   rw [Op.eqFields]
   simp only [if_pos hn,Sem.run_bind,hoff,part_one hd ha cs i (by omega),part_one hd ha ds i (by omega),he hx0 hy0 d w,Result.andThen_ok]
   cases e
   ·simp
   ·simpa using rest
  split at hk
  ·rename_i k ho hd
   obtain ⟨ls',hks,rfl⟩:=Option.map_eq_some_iff.1 hk
   cases xs<;>cases ys<;>simp only [eqLs] at h<;>try (cases h;done)
   obtain ⟨m,hm,h1⟩:=asInt_some h
   obtain ⟨n,hn,h2⟩:=asInt_some h1
   subst hm
   subst hn
   exact fin (l:=.int k) ho hd rfl hks h2 fun u v d w=>by rw [rep_int u,rep_int v];exact run_equalIn_int w d f.type k k m n hd
  ·rename_i ho hd
   obtain ⟨ls',hks,rfl⟩:=Option.map_eq_some_iff.1 hk
   cases xs<;>cases ys<;>simp only [eqLs] at h<;>try (cases h;done)
   obtain ⟨m,hm,h1⟩:=asBool_some h
   obtain ⟨n,hn,h2⟩:=asBool_some h1
   subst hm
   subst hn
   exact fin (l:=.bool) ho hd rfl hks h2 fun u v d w=>by rw [rep_bool u,rep_bool v];exact run_equalIn_bool' w d f.type m n hd
  ·rename_i ho hd
   obtain ⟨ls',hks,rfl⟩:=Option.map_eq_some_iff.1 hk
   cases xs<;>cases ys<;>simp only [eqLs] at h<;>try (cases h;done)
   obtain ⟨m,hm,h1⟩:=asStr_some h
   obtain ⟨n,hn,h2⟩:=asStr_some h1
   subst hm
   subst hn
   exact fin (l:=.str) ho hd rfl hks h2 fun u v d w=>by rw [rep_str u,rep_str v];exact run_equalIn_string w d f.type m n hd
  ·cases hk
theorem ok_binop {o:Oper} {q:Q} {op:BinOp} {t yt:TypeId} {x y:Operand} (ho:o.op = .binOp op t x y yt) {ti:TI} (ht:tiOf P t=some ti) {K:LV→Option R} {r:R}
  (h:binop ti op (ev q.E x) (ev q.E y) K=some r):∃v,K v=some r∧OpOk P q o v none q:=by
 obtain ⟨i,d,hi,hd,hkd,_⟩:=tiOf_und ht
 have run:∀(a:Act) (w:World),(execOp a.eval o).run P w=((do eqGuard op t x y (a.eval x) (a.eval y);binOp op t (a.eval x) (a.eval y):Sem Value).run P w).andThen fun v w'=>.ok (.value v) w':=by
  intro a w
  simp [execOp,ho]
  cases Sem.run P (eqGuard op t x y (a.eval x) (a.eval y)) w<;>rfl
 unfold binop at h
 split at h
 ·split at h
  ·rename_i hs
   obtain ⟨m,hm,h⟩:=asInt_some h
   obtain ⟨k',n,hn,h⟩:=asI_some h
   rcases ifB_some h with ⟨_,h⟩|⟨hz,h⟩
   ·cases h
   ·exact ⟨_,h,op_pure fun fr a c hr=>⟨_,by rw [run,hr.evInt hm,hr.evInt hn,shift_run hs (of_decide_eq_false hz)];rfl,.int _ _⟩⟩
  ·obtain ⟨m,hm,h⟩:=asInt_some h
   obtain ⟨n,hn,h⟩:=asInt_some h
   obtain ⟨v,h,hv⟩:=intBin_some (P:=P) h
   refine ⟨v,h,op_pure fun fr a c hr=>?_⟩
   obtain ⟨v',h1,h2⟩:=hv t x y c.w c
   exact ⟨v',by rw [run,hr.evInt hm,hr.evInt hn,h1];rfl,h2⟩
 ·obtain ⟨m,hm,h⟩:=asStr_some h
  obtain ⟨n,hn,h⟩:=asStr_some h
  obtain ⟨v,h,hv⟩:=strBin_some (P:=P) h
  refine ⟨v,h,op_pure fun fr a c hr=>?_⟩
  obtain ⟨v',h1,h2⟩:=hv t x y c.w c
  exact ⟨v',by rw [run,hr.evStr hm,hr.evStr hn,h1];rfl,h2⟩
 ·rename_i hk
  rw [hk] at hkd
  obtain rfl:=kdOf_bool hkd
  obtain ⟨m,hm,h⟩:=asBool_some h
  obtain ⟨n,hn,h⟩:=asBool_some h
  obtain ⟨v,h,hv⟩:=boolBin_some (P:=P) h
  refine ⟨v,h,op_pure fun fr a c hr=>?_⟩
  obtain ⟨v',h1,h2⟩:=hv t hd x y c.w c
  exact ⟨v',by rw [run,hr.evBool hm,hr.evBool hn,h1];rfl,h2⟩
 ·rename_i hk
  split at h
  ·rename_i ls hls
   obtain ⟨xs,hx,hxl,h⟩:=mat_some h
   obtain ⟨ys,hy,hyl,h⟩:=mat_some h
   obtain ⟨fs,hd',h1,h2,hks⟩:=tiOf_eq ht hls
   obtain ⟨b,h,hb⟩:=eqLs_run hks h
   obtain ⟨v,h,hv⟩:=boolBin_struct (P:=P) h
   refine ⟨v,h,op_pure fun fr a c hr=>?_⟩
   obtain ⟨O,hrx⟩:=hr.evr x
   obtain ⟨O',hry⟩:=hr.evr y
   rw [hx] at hrx
   rw [hy] at hry
   obtain ⟨cs,e1,hcs⟩:=rep_agg hrx
   obtain ⟨ds,e2,hds⟩:=rep_agg hry
   have hr:=hb (c:=c) (cs:=cs) (ds:=ds) (fun j hj=>by rw [Nat.zero_add];exact hcs.2 j (by omega)) (fun j hj=>by rw [Nat.zero_add];exact hds.2 j (by omega)) (by omega) (by omega) 9998 c.w
   obtain ⟨v',h3,h4⟩:=hv t x y cs ds c.w (by
    rw [run_equalIn_struct (P:=P) c.w 9999 t cs ds (by simp [Program.fieldsOf,hd']) h1]
    simpa [Program.fieldsOf,hd'] using hr) h2 c
   exact ⟨v',by rw [run,e1,e2,h3];rfl,h4⟩
  ·cases h
 ·rename_i hk
  split at h
  ·rename_i hy
   rw [hk] at hkd
   obtain ⟨e,rfl⟩:=kdOf_slice hkd
   obtain ⟨b,h,hb⟩:=isNil_some h
   obtain ⟨v,h,hv⟩:=boolBin_nil (P:=P) h
   refine ⟨v,h,op_pure fun fr a c hr=>?_⟩
   obtain ⟨O,hrx⟩:=hr.evr x
   obtain ⟨O',hry⟩:=hr.evr y
   rw [hy] at hry
   obtain ⟨b',n,cap,e1,e2⟩:=hb hrx
   have e3:a.eval y = .slice none 0 0:=rep_nilsl hry
   obtain ⟨v',h1,h2⟩:=hv t e hd x y b' n cap e2 c.w c
   exact ⟨v',by rw [run,e1,e3,h1];rfl,h2⟩
  ·cases h
 ·rename_i hk
  split at h
  ·rename_i hy
   rw [hk] at hkd
   obtain ⟨e,rfl⟩:=kdOf_ptr hkd
   obtain ⟨b,h,hb⟩:=isNilP_some h
   obtain ⟨v,h,hv⟩:=boolBin_nilP (P:=P) h
   refine ⟨v,h,op_pure fun fr a c hr=>?_⟩
   obtain ⟨O,hrx⟩:=hr.evr x
   obtain ⟨O',hry⟩:=hr.evr y
   rw [hy] at hry
   obtain ⟨b',e1,e2⟩:=hb hrx
   have e3:a.eval y = .pointer none:=rep_nilp hry
   obtain ⟨v',h1,h2⟩:=hv t e hd x y b' e2 c.w c
   exact ⟨v',by rw [run,e1,e3,h1];rfl,h2⟩
  ·cases h
 ·cases h
end
end Go.Lm
namespace Go.Lm
section
variable {R:Type} {P:Program} {T:Nat→Option TI} {C:Nat→Hd R}
theorem rep_sl {c:Cx} {sz:Nat} {xs:List LV} {v:Value} {O:List Nat} (h:Rep c (.sl sz xs) v O) :
  ∃A cap,v = .slice A xs.length cap∧xs.length≤cap∧xs.length≤9223372036854775807∧(0<xs.length→∃(b off:Nat) (cv:Nat→Value),A=some ⟨b,off,none⟩ ∧
   (∀p,p<xs.length*sz→c.w.cell? ⟨b,off+p,none⟩=some (cv p))∧(∀p,p<xs.length*sz→c.I b (off+p))∧(∀p,p<xs.length*sz→(cv p).oneCell'=true) ∧
   (∀p,p<xs.length*sz→Rep c (leaf (xs.getD (p / sz) .any) (p % sz)) (cv p) [])):=by
 cases h with
 |sl0 _ a cap _=>exact ⟨a,cap,rfl,Nat.zero_le _,by simp,fun h=>absurd h (by simp)⟩
 |sl _ b off cap _ cv hcap hmax hc hI h1 hr=>exact ⟨_,cap,rfl,hcap,hmax,fun _=>⟨b,off,cv,rfl,hc,hI,h1,hr⟩⟩
theorem rep_sl_nil {c:Cx} {sz:Nat} {xs:List LV} {n cap:Nat} {O:List Nat} (h:Rep c (.sl sz xs) (.slice none n cap) O):xs=[]∧n=0∧cap=0:=by
 cases h with
 |sl0 _ _ _ hn=>exact ⟨rfl,rfl,hn rfl⟩
theorem ok_not {o:Oper} {q:Q} {t:TypeId} {x:Operand} {b:Bool} (ho:o.op = .unOp .not t x) (hb:ev q.E x = .bool b):OpOk P q o (.bool (!b)) none q :=
 op_pure fun fr a c hr=>⟨.bool (!b),by simp [execOp,ho,hr.evBool hb,Op.unary],.bool _⟩
theorem run_call_builtin {o:Oper} {a:Act} {w w':World} {b:Builtin} {as:Array Operand} {ts:Array TypeId} {v:Value} (ho:o.op = .call { callee:=.builtin b,args:=as,argTypes:=ts })
  (h:(builtin b ts o.type (as.map fun | .const _=>true|_=>false) (as.map a.eval)).run P w = .ok (.value v) w'):(execOp a.eval o).run P w = .ok (.value v) w':=by
 simp [execOp,ho,resolve,invoke]
 exact h
theorem ok_lenStr {o:Oper} {q:Q} {x:Operand} {ts:Array TypeId} {t:TypeId} {s:ByteArray} (ho:o.op = .call { callee:=.builtin .len,args:=#[x],argTypes:=ts })
  (ht:ts[0]? = some t) (hd:P.underlying t=some .string) (hx:ev q.E x = .str s):OpOk P q o (.int .i64 s.size) none q :=
 op_pure fun fr a c hr=>⟨.int .i64 s.size,run_call_builtin ho (by
  simp [builtin,Builtin.len_,ht,run_underlying hd,hr.evStr hx,goInt]),.int _ _⟩
theorem ok_min {o:Oper} {q:Q} {x y:Operand} {ts:Array TypeId} {k k':IntKind} {m n:Int} (ho:o.op = .call { callee:=.builtin .min,args:=#[x,y],argTypes:=ts })
  (hx:ev q.E x = .int k m) (hy:ev q.E y = .int k' n):OpOk P q o (.int k (minI m n)) none q :=
 op_pure fun fr a c hr=>⟨.int k (minI m n),run_call_builtin ho (by
  simp [builtin,hr.evInt hx,hr.evInt hy,Builtin.min_,Builtin.min2,minI]),.int _ _⟩
theorem ok_lenSl {o:Oper} {q:Q} {x:Operand} {ts:Array TypeId} {t e:TypeId} {n:Nat} (ho:o.op = .call { callee:=.builtin .len,args:=#[x],argTypes:=ts })
  (ht:ts[0]? = some t) (hd:P.underlying t=some (.slice e)) (hx:∀{c:Cx} {w:Value} {O:List Nat},Rep c (ev q.E x) w O→∃A cap,w = .slice A n cap):OpOk P q o (.int .i64 n) none q :=
 op_pure fun fr a c hr=>⟨.int .i64 n,run_call_builtin ho (by
  obtain ⟨O,r⟩:=hr.evr x
  obtain ⟨A,cap,h⟩:=hx r
  simp [builtin,Builtin.len_,ht,run_underlying hd,h,goInt]),.int _ _⟩
theorem ok_convInt {o:Oper} {q:Q} {x:Operand} {s t:TypeId} {k k':IntKind} {n:Int} (ho:o.op = .convert s t x)
  (hs:P.underlying s=some (.int k)) (ht:P.underlying t=some (.int k')) (hx:ev q.E x = .int k n):OpOk P q o (.int k' (k'.wrap n)) none q :=
 op_pure fun fr a c hr=>⟨.int k' (k'.wrap n),by
  simp [execOp,ho,convert,run_underlying hs,run_underlying ht,hr.evInt hx,Conv.intToInt],.int _ _⟩
theorem ok_convStr {o:Oper} {q:Q} {x:Operand} {s t:TypeId} {b:ByteArray} (ho:o.op = .convert s t x)
  (hs:P.underlying s=some .string) (ht:P.underlying t=some .string) (hx:ev q.E x = .str b):OpOk P q o (.str b) none q :=
 op_pure fun fr a c hr=>⟨.string b,by
  simp [execOp,ho,convert,run_underlying hs,run_underlying ht,hr.evStr hx],.str _⟩
theorem ok_idxStr {o:Oper} {q:Q} {t:TypeId} {x i:Operand} {s:ByteArray} {n:Int} (ho:o.op = .index t x i) (hd:P.underlying t=some .string) (hx:ev q.E x = .str s) {ki:IntKind} (hi:ev q.E i = .int ki n)
  (h0:0≤n) (h1:n<s.size):OpOk P q o (.int .u8 (bt s n)) none q :=
 op_pure fun fr a c hr=>⟨.int .u8 (bt s n),by
  have hlt:n.toNat<s.size:=by omega
  simp [execOp,ho,Instr.index,hr.evStr hx,hr.evInt hi,asIntOf,run_underlying hd,h0,bt,hlt],.int _ _⟩
def optInt (E:List LV) (x:Option Operand) (d n:Int):Prop:=match x with
 |some x=>∃k,ev E x = .int k n
 |none=>n=d
theorem intOr_some {E:List LV} {x:Option Operand} {d:Int} {K:Int→Option R} {r:R} (h:intOr E x d K=some r):∃n,optInt E x d n∧K n=some r:=by
 cases x with
 |none=>exact ⟨d,rfl,h⟩
 |some x=>obtain ⟨k,n,hn,h⟩:=asI_some h;exact ⟨n,⟨k,hn⟩,h⟩
theorem run_bounds {fr:Fr} {q:Q} {a:Act} {c:Cx} (hr:Rel fr q a c) (isSlice:Bool) (len cap:Nat) (lo hi:Option Operand) (l h:Int) (hl:optInt q.E lo 0 l) (hh:optInt q.E hi len h)
  (h0:0≤l) (h1:l≤h) (h2:h≤len) (h3:len≤cap):(Instr.sliceBounds isSlice len cap (lo.map a.eval) (hi.map a.eval) none).run P c.w = .ok (l.toNat,h.toNat,cap) c.w:=by
 have b1:∀(k:IntKind) (i:Int) (y:Nat) (code:BoundsCode),0≤i→i≤y→(Instr.sliceBound (.int k i) y code).run P c.w = .ok i.toNat c.w:=fun k i y code h0 h1=>by
  simp [Instr.sliceBound,asIntOf,h0,h1]
 cases lo with
 |none =>
  simp only [optInt] at hl
  cases hi with
  |none =>
   simp only [optInt] at hh
   subst hl;subst hh
   simp [Instr.sliceBounds]
  |some hi =>
   simp only [optInt] at hh
   subst hl
   obtain ⟨kh,hh⟩:=hh
   simp [Instr.sliceBounds,hr.evInt hh,b1 kh h cap _ (by omega) (by omega)]
 |some lo =>
  simp only [optInt] at hl
  cases hi with
  |none =>
   simp only [optInt] at hh
   subst hh
   obtain ⟨kl,hl⟩:=hl
   simp [Instr.sliceBounds,hr.evInt hl,b1 kl l len _ h0 (by omega)]
  |some hi =>
   simp only [optInt] at hh
   obtain ⟨kl,hl⟩:=hl
   obtain ⟨kh,hh⟩:=hh
   simp [Instr.sliceBounds,hr.evInt hl,hr.evInt hh,b1 kh h cap _ (by omega) (by omega),b1 kl l h.toNat _ h0 (by omega)]
theorem ok_slStr {o:Oper} {q:Q} {t:TypeId} {x:Operand} {lo hi:Option Operand} {s:ByteArray} {l h:Int} (ho:o.op = .slice t x lo hi none) (hd:P.underlying t=some .string) (hx:ev q.E x = .str s)
  (hl:optInt q.E lo 0 l) (hh:optInt q.E hi s.size h) (h0:0≤l) (h1:l≤h) (h2:h≤s.size):OpOk P q o (.str (s.extract l.toNat h.toNat)) none q :=
 op_pure fun fr a c hr=>⟨.string (s.extract l.toNat h.toNat),by
  have hb:=run_bounds (P:=P) hr false s.size s.size lo hi l h hl hh h0 h1 h2 (Nat.le_refl _)
  simp [execOp,ho,Instr.sliceAt,Instr.slice,run_underlying hd,hr.evStr hx,hb],.str _⟩
theorem getD_cut (xs:List LV) (l h i:Nat) (hi:i<h-l):((xs.take h).drop l).getD i .any=xs.getD (l+i) .any:=by
 simp only [List.getD_eq_getElem?_getD,List.getElem?_drop,List.getElem?_take]
 rw [if_pos (by omega)]
theorem rep_cut {c:Cx} {sz:Nat} {xs:List LV} {v:Value} (h:Rep c (.sl sz xs) v []) (l hh:Nat) (h1:l≤hh) (h2:hh≤xs.length) :
  ∃A cap,v = .slice A xs.length cap∧xs.length≤cap∧Rep c (.sl sz ((xs.take hh).drop l)) (.slice (if cap=l then A else A.map (·.add (l*sz))) (hh-l) (cap-l)) []:=by
 obtain ⟨A,cap,rfl,hcap,hmax,hcells⟩:=rep_sl h
 have hlen:((xs.take hh).drop l).length=hh-l:=by simp;omega
 refine ⟨A,cap,rfl,hcap,?_⟩
 rcases Nat.eq_zero_or_pos (hh-l) with h3|h3
 ·have:(xs.take hh).drop l=[]:=List.eq_nil_of_length_eq_zero (by omega)
  rw [this,h3]
  refine .sl0 _ _ _ fun hA=>?_
  have hA':A=none∨cap=l:=by
   by_cases e:cap=l
   ·exact .inr e
   ·rw [if_neg e] at hA
    cases A with
    |none=>exact .inl rfl
    |some a=>cases hA
  rcases hA' with rfl|rfl
  ·rw [(rep_sl_nil h).2.2];omega
  ·omega
 ·obtain ⟨b,off,cv,rfl,hc,hI,ho,hr⟩:=hcells (by omega)
  rw [if_neg (by omega)]
  simp only [Option.map_some]
  have hadd:(⟨b,off,none⟩:Addr).add (l*sz)=⟨b,off+l*sz,none⟩:=Addr.add_lit _ _ _
  rw [hadd]
  have hp:∀p,p<(hh-l)*sz→l*sz+p<xs.length*sz:=fun p hp=>by
   have:(hh-l)*sz+l*sz≤xs.length*sz:=by rw [←Nat.add_mul];exact Nat.mul_le_mul_right _ (by omega)
   omega
  have:=Rep.sl (c:=c) sz b (off+l*sz) (cap-l) ((xs.take hh).drop l) (fun p=>cv (l*sz+p)) (by rw [hlen];omega) (by omega)
   (fun p h=>by rw [hlen] at h;rw [Nat.add_assoc];exact hc _ (hp p h)) (fun p h=>by rw [hlen] at h;rw [Nat.add_assoc];exact hI _ (hp p h)) (fun p h=>by rw [hlen] at h;exact ho _ (hp p h))
   (fun p h=>by
    rw [hlen] at h
    have hsz:0<sz:=Nat.pos_of_ne_zero fun e=>by subst e;simp at h
    have e1:(l*sz+p) / sz=l+p / sz:=by rw [Nat.add_comm,Nat.add_mul_div_right _ _ hsz,Nat.add_comm]
    have e2:(l*sz+p) % sz=p % sz:=by rw [Nat.add_comm,Nat.add_mul_mod_self_right]
    have:=hr _ (hp p h)
    rw [e1,e2] at this
    rw [getD_cut _ _ _ _ (Nat.div_lt_of_lt_mul (by rw [Nat.mul_comm];exact h))]
    exact this)
  rw [hlen] at this
  exact this
theorem ok_slSl {o:Oper} {q:Q} {t e:TypeId} {i:TypeInfo} {x:Operand} {lo hi:Option Operand} {sz:Nat} {xs:List LV} {l h:Int} (ho:o.op = .slice t x lo hi none) (hd:P.underlying t=some (.slice e)) (he:P.info? e=some i) (hsz:i.size=sz)
  (hx:∀{c:Cx} {w:Value} {O:List Nat},Rep c (ev q.E x) w O→Rep c (.sl sz xs) w [])
  (hl:optInt q.E lo 0 l) (hh:optInt q.E hi xs.length h) (h0:0≤l) (h1:l≤h) (h2:h≤xs.length):OpOk P q o (.sl sz ((xs.take h.toNat).drop l.toNat)) none q :=
 op_pure fun fr a c hr=>by
  obtain ⟨O,r⟩:=hr.evr x
  obtain ⟨A,cap,hv,hcap,hrep⟩:=rep_cut (hx r) l.toNat h.toNat (by omega) (by omega)
  refine ⟨_,?_,hrep⟩
  have hb:=run_bounds (P:=P) hr true xs.length cap lo hi l h hl hh h0 h1 h2 hcap
  subst hsz
  simp [execOp,ho,Instr.sliceAt,Instr.slice,run_underlying hd,hv,hb,sizeOf,typeInfo,he]
theorem ok_indexAddr {o:Oper} {q:Q} {t e:TypeId} {i:TypeInfo} {x ix:Operand} {sz:Nat} {xs:List LV} {n:Int} (ho:o.op = .indexAddr t x ix) (hd:P.underlying t=some (.slice e)) (he:P.info? e=some i) (hsz:i.size=sz)
  (hx:∀{c:Cx} {w:Value} {O:List Nat},Rep c (ev q.E x) w O→Rep c (.sl sz xs) w []) {ki:IntKind} (hi:ev q.E ix = .int ki n) (h0:0≤n) (h1:n<xs.length) :
  OpOk P q o (.cptr (xs.getD n.toNat .any) sz 0) none q :=
 op_pure fun fr a c hr=>by
  obtain ⟨O,r⟩:=hr.evr x
  obtain ⟨A,cap,hv,hcap,hmax,hcells⟩:=rep_sl (hx r)
  obtain ⟨b,off,cv,rfl,hc,hI,ho1,hr1⟩:=hcells (by omega)
  have hb:∀p,p<sz→n.toNat*sz+p<xs.length*sz:=fun p hp=>by
   have:(n.toNat+1)*sz≤xs.length*sz:=Nat.mul_le_mul_right _ (by omega)
   rw [Nat.add_mul] at this;omega
  refine ⟨.pointer (some ⟨b,off+n.toNat*sz,none⟩),?_,?_⟩
  ·subst hsz
   simp [execOp,ho,Instr.indexAt,hr.evInt hi,asIntOf,run_underlying hd,hv,h0,h1,sizeOf,typeInfo,he,Addr.add_lit]
  ·exact Rep.cptr (c:=c) (xs.getD n.toNat .any) 0 sz b (off+n.toNat*sz) (fun p=>cv (n.toNat*sz+p)) (Nat.zero_le _)
    (fun p hp=>by rw [Nat.add_assoc];exact hc _ (hb p hp)) (fun p hp=>by rw [Nat.add_assoc];exact hI _ (hb p hp)) (fun p hp=>ho1 _ (hb p hp))
    (fun p hp=>by
     have hsz0:0<sz:=by omega
     have e1:(n.toNat*sz+p) / sz=n.toNat:=by rw [Nat.add_comm,Nat.add_mul_div_right _ _ hsz0,Nat.div_eq_of_lt hp,Nat.zero_add]
     have e2:(n.toNat*sz+p) % sz=p:=by rw [Nat.add_comm,Nat.add_mul_mod_self_right,Nat.mod_eq_of_lt hp]
     have:=hr1 _ (hb p hp)
     rw [e1,e2] at this
     exact this)
end
end Go.Lm
namespace Go.Lm
section
variable {R:Type} {P:Program} {T:Nat→Option TI} {C:Nat→Hd R}
theorem tiOf_struct {t:TypeId} {ti:TI} (h:tiOf P t=some ti) (hk:ti.kd = .struct):∃fs,P.underlying t=some (.struct fs)∧ti.fs=fs.toList.map (fun f=>(f.offset,P.cellsOf f.type,f.type))∧∀f,f∈fs.toList→P.cellsOf f.type≠0:=by
 unfold tiOf at h
 split at h
 ·rename_i i d hi hd
  split at h
  ·split at h
   ·split at h
    ·cases h;cases hk
    ·cases h
   ·rename_i fs
    split at h
    ·rename_i hall
     cases h
     refine ⟨fs,hd,rfl,fun f hf e=>?_⟩
     have:=List.all_eq_true.1 hall f hf
     rw [e] at this;simp at this
    ·cases h
   ·cases h;cases hk
   ·cases h;cases hk
   ·cases h
    exfalso
    cases d<;>simp [kdOf] at hk<;>simp_all
  ·cases h
 ·cases h
theorem tiOf_fs {t:TypeId} {ti:TI} (h:tiOf P t=some ti) {i o n:Nat} {ft:TypeId} (hf:ti.fs[i]? = some (o,n,ft)):∃fs f,P.underlying t=some (.struct fs)∧fs[i]? = some f∧f.offset=o∧P.cellsOf f.type=n∧f.type=ft∧n≠0:=by
 have hk:ti.kd = .struct:=by
  unfold tiOf at h
  split at h
  ·split at h
   ·split at h
    ·split at h
     ·cases h;simp at hf
     ·cases h
    ·split at h
     ·cases h;rfl
     ·cases h
    ·cases h;simp at hf
    ·cases h;simp at hf
    ·cases h;simp at hf
   ·cases h
  ·cases h
 obtain ⟨fs,hd,hfs,hn⟩:=tiOf_struct h hk
 rw [hfs,List.getElem?_map] at hf
 cases hq:fs.toList[i]? with
 |none=>rw [hq] at hf;simp at hf
 |some f =>
  rw [hq] at hf
  simp at hf
  refine ⟨fs,f,hd,by simpa using hq,hf.1,hf.2.1,hf.2.2,?_⟩
  rw [←hf.2.1]
  exact hn f (List.mem_of_getElem? hq)
theorem Rel.addr {fr:Fr} {q:Q} {a:Act} {c:Cx} (hr:Rel fr q a c) {x:Operand} {d p:Nat} (h:q.addr x=some (d,p)) :
  d<q.E.length∧∃g,a.tmps.getD d undef = .pointer (some ⟨g,0,none⟩)∧a.eval x = .pointer (some ⟨g,p,none⟩):=by
 obtain ⟨o,hr⟩:=hr
 unfold Q.addr at h
 split at h
 ·rename_i t
  split at h
  ·rename_i z hz
   cases h
   obtain ⟨_,hd,g,h1,h2⟩:=hr.al t d p hz
   exact ⟨hd,g,h1,h2⟩
  ·split at h
   ·rename_i xs hx
    cases h
    have ht:d<q.E.length:=by
     rcases Nat.lt_or_ge d q.E.length with h1|h1
     ·exact h1
     ·simp [List.getD_eq_getElem?_getD,List.getElem?_eq_none h1] at hx
    have r:=hr.env d ht
    rw [hx] at r
    generalize hv:a.tmps.getD d undef=v at r
    generalize hO:o (.env d)=O at r
    cases r with
    |lbox _ g cur e hs hh hI h1 hr=>exact ⟨ht,g,rfl,hv⟩
   ·cases h
 ·cases h
theorem ok_move' {o:Oper} {q:Q} {x:Operand} (ho:o.op = .move x):OpOk P q o (dup (ev q.E x)) (q.addr x) q :=
 op_val fun fr a c hr=>⟨c,a.eval x,by simp [execOp,ho],by
  have hd:=hr.evd x
  obtain ⟨ow,hr⟩:=hr
  exact hr.fly1 hd,fun e p h=>by
  obtain ⟨h1,g,h2,h3⟩:=hr.addr h
  exact ⟨h1,g,h2,h3⟩⟩
theorem ok_nilCheck {o:Oper} {q:Q} {x:Operand} {v:LV} (ho:o.op = .nilCheck x) (hv:ev q.E x=v) (hp:∀{c:Cx} {w:Value} {O:List Nat},Rep c v w O→(∃a,w = .pointer (some a))∧O=[]):OpOk P q o v none q :=
 op_pure fun fr a c hr=>by
  obtain ⟨O,r⟩:=hr.evr x
  rw [hv] at r
  obtain ⟨⟨ad,h1⟩,rfl⟩:=hp r
  exact ⟨a.eval x,by simp [execOp,ho,h1],r⟩
theorem ok_nilCheck_own {o:Oper} {q:Q} {x:Operand} {d p:Nat} (ho:o.op = .nilCheck x) (ha:q.addr x=some (d,p)):OpOk P q o .any (some (d,p)) q :=
 op_val fun fr a c hr=>by
  obtain ⟨h1,g,h2,h3⟩:=hr.addr ha
  refine ⟨c,a.eval x,by simp [execOp,ho,h3],?_,fun e p' h=>?_⟩
  ·obtain ⟨ow,hr⟩:=hr
   exact hr.fly1 (.any _)
  ·cases h;exact ⟨h1,g,h2,h3⟩
theorem ok_makeFunc {o:Oper} {q:Q} {f:FuncId} {first cs:Array Operand} (ho:o.op = .makeFunc (.func f) first cs) (hf:first.toList=[]) (hb:Nat.blt f fnB=true):OpOk P q o (.fn f (cs.toList.map fun x=>dup (ev q.E x))) none q :=
 op_pure fun fr a c hr=>by
  have h0:first = #[]:=by simpa using hf
  subst h0
  refine ⟨.func (.func f) #[] (cs.map a.eval),by simp [execOp,ho,Instr.makeFunc],.fn f _ _ (blt_lt hb) (by simp) (fun i hi=>?_)⟩
  have hi':i<cs.size:=by simpa using hi
  have e1:(cs.toList.map fun x=>dup (Lm.ev q.E x)).getD i .any=dup (Lm.ev q.E cs[i]):=by simp [List.getD_eq_getElem?_getD,hi']
  have e2:(cs.map a.eval).getD i undef=a.eval cs[i]:=by simp [Array.getD_eq_getD_getElem?,hi']
  rw [e1,e2]
  exact hr.evd _
theorem ok_makeFuncM {o:Oper} {q:Q} {f:FuncId} {first cs:Array Operand} (ho:o.op = .makeFunc (.func f) first cs) (hf:cs.toList=[]):OpOk P q o (.fn (f+fnB) (first.toList.map fun x=>dup (ev q.E x))) none q :=
 op_pure fun fr a c hr=>by
  have h0:cs = #[]:=by simpa using hf
  subst h0
  refine ⟨.func (.func f) (first.map a.eval) #[],by simp [execOp,ho,Instr.makeFunc],.fnm f (f+fnB) rfl _ _ (by simp) (fun i hi=>?_)⟩
  have hi':i<first.size:=by simpa using hi
  have e1:(first.toList.map fun x=>dup (Lm.ev q.E x)).getD i .any=dup (Lm.ev q.E first[i]):=by simp [List.getD_eq_getElem?_getD,hi']
  have e2:(first.map a.eval).getD i undef=a.eval first[i]:=by simp [Array.getD_eq_getD_getElem?,hi']
  rw [e1,e2]
  exact hr.evd _
theorem run_fieldAt {w:World} {t:TypeId} {fs:Array Field} {f:Field} {i:Nat} {b o:Nat} (hd:P.underlying t=some (.struct fs)) (hf:fs[i]? = some f) (hn:P.cellsOf f.type≠0) :
  (Instr.fieldAt t (.pointer (some ⟨b,o,none⟩)) i).run P w = .ok (.pointer (some ⟨b,o+f.offset,none⟩)) w:=by
 have hi:∃j,P.info? f.type=some j∧j.size≠0:=by
  unfold Program.cellsOf at hn
  cases hq:P.info? f.type with
  |none=>rw [hq] at hn;simp at hn
  |some j=>rw [hq] at hn;exact ⟨j,rfl,by simpa using hn⟩
 obtain ⟨j,hj,hj0⟩:=hi
 simp [Instr.fieldAt,run_underlying hd,hf,Instr.sureAddr,fieldPlace,sizeOf,typeInfo,hj,hj0,Addr.add_lit]
theorem ok_fieldAddr_own {o:Oper} {q:Q} {t:TypeId} {ti:TI} {x:Operand} {i fo n d p:Nat} {ft:TypeId} (ho:o.op = .fieldAddr t x i) (ht:tiOf P t=some ti) (hf:ti.fs[i]? = some (fo,n,ft))
  (ha:q.addr x=some (d,p)):OpOk P q o .any (some (d,p+fo)) q:=by
 obtain ⟨fs,f,hd,hfi,hoff,hn,_,hn0⟩:=tiOf_fs ht hf
 refine op_val fun fr a c hr=>?_
 obtain ⟨hlt,g,h1,h2⟩:=hr.addr ha
 refine ⟨c,.pointer (some ⟨g,p+fo,none⟩),?_,?_,fun e p' he=>?_⟩
 ·simp [execOp,ho,h2,run_fieldAt hd hfi (by rw [hn];exact hn0),hoff]
 ·obtain ⟨ow,hr⟩:=hr
  exact hr.fly1 (.any _)
 ·cases he;exact ⟨hlt,g,h1,rfl⟩
theorem ok_fieldAddr_cptr {o:Oper} {q:Q} {t:TypeId} {ti:TI} {x:Operand} {i fo n m p:Nat} {ft:TypeId} {v:LV} (ho:o.op = .fieldAddr t x i) (ht:tiOf P t=some ti) (hf:ti.fs[i]? = some (fo,n,ft))
  (hx:ev q.E x = .cptr v m p) (hm:p+fo≤m):OpOk P q o (.cptr v m (p+fo)) none q:=by
 obtain ⟨fs,f,hd,hfi,hoff,hn,_,hn0⟩:=tiOf_fs ht hf
 refine op_pure fun fr a c hr=>?_
 obtain ⟨O,r⟩:=hr.evr x
 rw [hx] at r
 generalize hv:a.eval x=z at r
 cases r with
 |cptr _ _ _ b off cv hle hc hI h1 hr1 =>
  refine ⟨.pointer (some ⟨b,off+(p+fo),none⟩),?_,.cptr v (p+fo) m b off cv hm hc hI h1 hr1⟩
  simp [execOp,ho,hv,run_fieldAt hd hfi (by rw [hn];exact hn0),hoff,Nat.add_assoc]
theorem ok_fieldAddr_ptr {o:Oper} {q:Q} {t:TypeId} {ti:TI} {x:Operand} {i fo n id p:Nat} {ft:TypeId} (ho:o.op = .fieldAddr t x i) (ht:tiOf P t=some ti) (hf:ti.fs[i]? = some (fo,n,ft))
  (hx:ev q.E x = .ptr id p):OpOk P q o (.ptr id (p+fo)) none q:=by
 obtain ⟨fs,f,hd,hfi,hoff,hn,_,hn0⟩:=tiOf_fs ht hf
 refine op_pure fun fr a c hr=>?_
 obtain ⟨O,r⟩:=hr.evr x
 rw [hx] at r
 generalize hv:a.eval x=z at r
 cases r with
 |ptr _ _ hid =>
  refine ⟨.pointer (some ⟨c.ι id,p+fo,none⟩),?_,.ptr id (p+fo) hid⟩
  simp [execOp,ho,hv,run_fieldAt hd hfi (by rw [hn];exact hn0),hoff]
theorem isAggK_of {d:TypeDesc} (h:isAggK (kdOf d)=true):(∃fs,d = .struct fs)∨∃n e,d = .array n e:=by
 cases d<;>simp [kdOf,isAggK] at h
 ·exact .inr ⟨_,_,rfl⟩
 ·exact .inl ⟨_,rfl⟩
theorem run_loadAt_agg {w:World} {t:TypeId} {i:TypeInfo} {d:TypeDesc} (hi:P.info? t=some i) (hd:P.underlying t=some d) (hk:isAggK (kdOf d)=true) (ad:Addr) (f:Nat→Value)
  (hc:∀j,j<i.size→w.cell? (ad.add j)=some (f j)):(Instr.loadAt t (.pointer (some ad))).run P w = .ok (.agg ((List.range i.size).map f).toArray) w:=by
 have h1:=run_loadCells (P:=P) w ad i.size f hc
 have h2:(isAgg t).run P w = .ok true w:=by
  rcases isAggK_of hk with ⟨fs,rfl⟩|⟨n,e,rfl⟩<;>simp [isAgg,run_underlying hd]
 simp [Instr.loadAt,Instr.sureAddr,loadVar,h2,sizeOf,typeInfo,hi,h1]
theorem run_loadAt_leaf {w:World} {t:TypeId} {d:TypeDesc} (hd:P.underlying t=some d) (hk:isAggK (kdOf d)=false) (ad:Addr) (v:Value)
  (hc:w.cell? ad=some v):(Instr.loadAt t (.pointer (some ad))).run P w = .ok v w:=by
 have h2:(isAgg t).run P w = .ok false w:=by
  cases d<;>simp [kdOf,isAggK] at hk<;>simp [isAgg,run_underlying hd]
 simp [Instr.loadAt,Instr.sureAddr,loadVar,h2,hc]
theorem dec_some {l:LK} {v:LV} {K:LV→Option R} {r:R} (h:dec l v K=some r):∃v',K v'=some r∧∀{c:Cx} {w:Value},Rep c v w []→Rep c v' w []:=by
 cases l<;>simp only [dec] at h
 ·obtain ⟨n,e,h2⟩:=asInt_some h;subst e;exact ⟨_,h2,fun r=>r⟩
 ·obtain ⟨n,e,h2⟩:=asBool_some h;subst e;exact ⟨_,h2,fun r=>r⟩
 ·obtain ⟨n,e,h2⟩:=asStr_some h;subst e;exact ⟨_,h2,fun r=>r⟩
 ·obtain ⟨n,h2,hr⟩:=asSl_some h;exact ⟨_,h2,fun r=>hr r⟩
 ·exact ⟨_,h,fun r=>r⟩
 ·exact ⟨_,h,fun r=>r⟩
 ·exact ⟨_,h,fun r=>r⟩
 ·exact ⟨_,h,fun r=>r⟩
theorem decL_some:∀(ls:List LK) (xs:List LV) (i:Nat) (K:List LV→Option R) (r:R),decL ls xs i K=some r →
  ∃l,K l=some r∧l.length=ls.length∧∀{c:Cx} (f:Nat→Value),(∀j,j<ls.length→Rep c (xs.getD (i+j) .any) (f j) [])→∀j,j<ls.length→Rep c (l.getD j .any) (f j) []
 |[],xs,i,K,r,h=>⟨[],h,rfl,fun f _ j hj=>absurd hj (by simp)⟩
 |l::ls,xs,i,K,r,h=>by
  simp only [decL] at h
  obtain ⟨v,h,hv⟩:=dec_some h
  obtain ⟨l',h,hlen,hl⟩:=decL_some ls xs (i+1) _ r h
  refine ⟨v::l',h,by simp [hlen],fun f hf j hj=>?_⟩
  cases j with
  |zero=>simpa using hv (by simpa using hf 0 (by simp))
  |succ j =>
   have:=hl (fun j=>f (j+1)) (fun j hj=>by have:=hf (j+1) (by simp;omega);rwa [show i+1+j=i+(j+1) from by omega]) j (by simp at hj;omega)
   simpa using this
theorem decT_some {t:TI} {v:LV} {K:LV→Option R} {r:R} (h:decT t v K=some r):∃v',K v'=some r∧∀{c:Cx} {w:Value},Rep c v w []→Rep c v' w []:=by
 have agg:(mat t.lk.length v fun xs=>decL t.lk xs 0 fun l=>K (.agg l))=some r→∃v',K v'=some r∧∀{c:Cx} {w:Value},Rep c v w []→Rep c v' w []:=fun h=>by
  obtain ⟨xs,rfl,hxl,hm⟩:=mat_some h
  obtain ⟨l,hK,hll,hl⟩:=decL_some _ _ _ _ _ hm
  refine ⟨_,hK,fun {c w} r=>?_⟩
  cases r with
  |agg _ cs hs hr =>
   refine .agg l cs (by omega) fun i hi=>?_
   have:=hl (c:=c) (fun j=>cs.getD j undef) (fun j hj=>by rw [Nat.zero_add];exact hr j (by omega)) i (by omega)
   exact this
 unfold decT at h
 split at h
 ·exact agg h
 ·exact agg h
 ·split at h
  ·exact dec_some h
  ·cases h
theorem getD_range_map {n:Nat} (f:Nat→Value) {i:Nat} (h:i<n):(((List.range n).map f).toArray).getD i undef=f i:=by
 simp [Array.getD_eq_getD_getElem?,h]
theorem ok_load_cptr {o:Oper} {q:Q} {t:TypeId} {ti:TI} {x:Operand} {v:LV} {n p:Nat} (ho:o.op = .load t x) (ht:tiOf P t=some ti) (hx:ev q.E x = .cptr v n p) {K:LV→Option R} {r:R}
  (h:(match isAggK ti.kd with
     |true=>(match Nat.beq p 0&&Nat.beq n ti.lk.length with
      |true=>decT ti v K
      |false=>ifB (Nat.ble (p+ti.lk.length) n) (mat n v fun xs=>decL ti.lk xs p fun l=>K (.agg l)) none)
     |false=>(match Nat.blt p n with
      |true=>decT ti (leaf v p) K
      |false=>none))=some r):∃y,K y=some r∧OpOk P q o y none q:=by
 obtain ⟨i,d,hi,hd,hkd,hlk,_⟩:=tiOf_und ht
 cases hk:isAggK ti.kd with
 |true =>
  rw [hk] at h
  simp only at h
  split at h
  ·rename_i hb
   rw [Bool.and_eq_true] at hb
   have hp:=Nat.eq_of_beq_eq_true hb.1
   have hn:=Nat.eq_of_beq_eq_true hb.2
   have hm:mat ti.lk.length v (fun xs=>decL ti.lk xs 0 fun l=>K (.agg l))=some r:=by
    unfold decT at h
    revert h hk
    cases ti.kd<;>simp [isAggK]
   obtain ⟨xs,rfl,hxl,hm⟩:=mat_some hm
   obtain ⟨l,hK,hll,hl⟩:=decL_some _ _ _ _ _ hm
   refine ⟨.agg l,hK,op_pure fun fr a c hr=>?_⟩
   obtain ⟨O,rr⟩:=hr.evr x
   rw [hx] at rr
   generalize hv:a.eval x=z at rr
   cases rr with
   |cptr _ _ _ b off cv hle hc hI h1 hr1 =>
    subst hp
    refine ⟨.agg ((List.range i.size).map cv).toArray,?_,?_⟩
    ·have:=run_loadAt_agg (P:=P) (w:=c.w) hi hd (by rw [←hkd];exact hk) ⟨b,off,none⟩ cv (fun j hj=>by rw [Addr.add_lit];exact hc j (by rw [hn,hlk];exact hj))
     simp [execOp,ho,hv,this]
    ·refine .agg l _ (by simp [hll,hlk]) (fun j hj=>?_)
     rw [getD_range_map _ (by rw [←hlk,←hll];exact hj)]
     exact hl cv (fun j hj=>by simpa [leaf] using hr1 j (by rw [hn];exact hj)) j (by rw [←hll];exact hj)
  ·unfold ifB at h
   split at h
   ·rename_i hb
    have hle:=Nat.le_of_ble_eq_true hb
    obtain ⟨xs,rfl,hxl,hm⟩:=mat_some h
    obtain ⟨l,hK,hll,hl⟩:=decL_some _ _ _ _ _ hm
    refine ⟨.agg l,hK,op_pure fun fr a c hr=>?_⟩
    obtain ⟨O,rr⟩:=hr.evr x
    rw [hx] at rr
    generalize hv:a.eval x=z at rr
    cases rr with
    |cptr _ _ _ b off cv hle2 hc hI h1 hr1 =>
     refine ⟨.agg ((List.range i.size).map fun j=>cv (p+j)).toArray,?_,?_⟩
     ·have:=run_loadAt_agg (P:=P) (w:=c.w) hi hd (by rw [←hkd];exact hk) ⟨b,off+p,none⟩ (fun j=>cv (p+j)) (fun j hj=>by rw [Addr.add_lit,Nat.add_assoc];exact hc (p+j) (by rw [←hlk] at hj;omega))
      simp [execOp,ho,hv,this]
     ·refine .agg l _ (by simp [hll,hlk]) (fun j hj=>?_)
      rw [getD_range_map (fun j=>cv (p+j)) (by rw [←hlk,←hll];exact hj)]
      exact hl (fun j=>cv (p+j)) (fun j hj=>by simpa [leaf] using hr1 (p+j) (by omega)) j (by rw [←hll];exact hj)
   ·cases h
 |false =>
  rw [hk] at h
  simp only at h
  split at h
  ·rename_i hb
   have hp:p<n:=Nat.lt_of_succ_le (Nat.le_of_ble_eq_true hb)
   have hm:∃l,ti.lk=[l]∧dec l (leaf v p) K=some r:=by
    unfold decT at h
    revert h hk
    cases ti.kd<;>simp only [isAggK]<;>intro hk<;>try (cases hk;done)
    all_goals
     intro h
     split at h
     ·exact ⟨_,by assumption,h⟩
     ·cases h
   obtain ⟨l,hl,hm⟩:=hm
   obtain ⟨y,hK,hy⟩:=dec_some hm
   refine ⟨y,hK,op_pure fun fr a c hr=>?_⟩
   obtain ⟨O,rr⟩:=hr.evr x
   rw [hx] at rr
   generalize hv:a.eval x=z at rr
   cases rr with
   |cptr _ _ _ b off cv hle hc hI h1 hr1 =>
    refine ⟨cv p,?_,hy (hr1 p hp)⟩
    have:=run_loadAt_leaf (P:=P) (w:=c.w) hd (by rw [←hkd];exact hk) ⟨b,off+p,none⟩ (cv p) (hc p hp)
    simp [execOp,ho,hv,this]
  ·cases h
theorem RelO.fresh {fr:Fr} {q:Q} {a:Act} {c:Cx} {xs:List LV} {vs:List Value} {o:Ow} (h:RelO fr q a c xs vs o) (ob:Obj) (cells:Array Value) (e:TypeId) (_hob:ob = .cells cells e (0,0)) (J:Nat→Prop)
  {x:LV} {v:Value} (hr:∀c':Cx,c'.w=c.w.alloc ob→Ext c c' (fun _=>False)→(∀p,c'.I c.w.heap.size p ↔ J p)→(∃O,(O=[]∨O=[c.w.heap.size])∧Rep c' x v O)) :
  ∃c' o',c'.w=c.w.alloc ob∧RelO fr q a c' (xs++[x]) (vs++[v]) o':=by
 have hlt:∀b,b<c.w.heap.size→(c.w.alloc ob).heap[b]? = c.w.heap[b]?:=fun b hb=>by
  show (c.w.heap.push ob)[b]? = _
  rw [Array.getElem?_push,if_neg (by omega)]
 let c':Cx:={ c with I:=fun b p=>c.I b p∨(b=c.w.heap.size∧J p),w:=c.w.alloc ob }
 have hext:Ext c c' (fun _=>False):=⟨Nat.le_refl _,fun _ _=>rfl,fun b p hp=>.inl hp,fun b p hp=>World.cell?_of_block (w:=c.w) (hlt b (h.sto.bd b p hp)),by show _≤(c.w.heap.push ob).size;simp,fun b hb _=>hlt b hb,
  fun b p hb _ hp=>by
   rcases hp with hp|hp
   ·exact hp
   ·omega,(fun _ _ _ _ h _=>False.elim h),rfl,rfl,rfl⟩
 have hI:∀p,c'.I c.w.heap.size p ↔ J p:=fun p=>⟨fun hp=>by
  rcases hp with hp|hp
  ·have:=h.sto.bd _ _ hp;omega
  ·exact hp.2,fun hp=>.inr ⟨rfl,hp⟩⟩
 obtain ⟨O,hO,hrep⟩:=hr c' rfl hext hI
 have hmove:=h.move (c':=c') hext (fun _ hf=>hf.elim) rfl (fun b p hp=>by
  show b<(c.w.heap.push ob).size
  rcases hp with hp|hp
  ·have:=h.sto.bd b p hp;simp;omega
  ·simp;omega)
 have hnot:∀k,c.w.heap.size∉o k:=fun k hk=>by have:=(h.own k _ hk).1;omega
 refine ⟨c',upd o (.arg xs.length) O,rfl,hmove.len,hmove.alen,fun t ht=>?_,hmove.al,⟨hmove.sto.n,fun id hid=>?_,hmove.sto.bd⟩,fun i hi=>?_,by simp [hmove.flyl],?_,hmove.ext,fun k g hg=>?_,hmove.df⟩
 ·rw [upd_other _ _ (by simp)];exact hmove.env t ht
 ·rw [upd_other _ _ (by simp)];exact hmove.sto.r id hid
 ·by_cases e:i=xs.length
  ·subst e;rw [upd_same,←hmove.flyl];simpa [List.getD_eq_getElem?_getD,hmove.flyl] using hrep
  ·have hi':i<xs.length:=by simp at hi;omega
   rw [upd_other _ _ (by simp [e])]
   have:=hmove.fly i hi'
   rwa [getD_app_lt _ _ _ _ hi',getD_app_lt _ _ _ _ (by rw [hmove.flyl];exact hi')]
 ·refine ⟨fun k=>?_,fun k k' g hne hg=>?_⟩
  ·unfold upd;split
   ·rcases hO with rfl|rfl<;>simp
   ·exact h.sep.nd k
  ·unfold upd at hg ⊢
   split at hg
   ·rename_i hk
    split
    ·rename_i hk';exact absurd (hk.trans hk'.symm) hne
    ·rcases hO with rfl|rfl
     ·simp at hg
     ·simp at hg;subst hg;exact hnot k'
   ·split
    ·rcases hO with rfl|rfl
     ·simp
     ·intro hm;simp at hm;subst hm;exact hnot k hg
    ·exact h.sep.dj k k' g hne hg
 ·unfold upd at hg
  split at hg
  ·rcases hO with rfl|rfl
   ·simp at hg
   ·simp at hg;subst hg;exact ⟨by show _<(c.w.heap.push ob).size;simp,.inr h.ext.size⟩
  ·exact hmove.own k g hg
end
end Go.Lm
namespace Go.Lm
section
variable {R:Type} {P:Program} {T:Nat→Option TI} {C:Nat→Hd R}
theorem rep_cells {c:Cx} {x:LV} {v:Value} (h:Rep c x v []) (h1:(cellsOf x).all one=true) :
  v.cells.size=(cellsOf x).length∧(∀i,i<(cellsOf x).length→Rep c ((cellsOf x).getD i .any) (v.cells.getD i undef) [])∧∀i,i<v.cells.size→(v.cells.getD i undef).oneCell'=true:=by
 have key:∀{x:LV} {v:Value},Rep c x v []→one x=true→v.cells = #[v]:=fun {x v} r h=>by
  have:=r.one h
  cases v<;>simp [Value.oneCell'] at this<;>rfl
 have hcase:(∃xs,x = .agg xs)∨cellsOf x=[x]:=by cases x<;>simp [cellsOf]
 rcases hcase with ⟨xs,rfl⟩|hc
 ·cases h with
  |agg _ cs hs hr =>
   refine ⟨hs,hr,fun i hi=>?_⟩
   have hi':i<xs.length:=by rw [←hs];exact hi
   refine (hr i hi').one ?_
   have:=List.all_eq_true.1 h1 (xs[i]) (List.getElem_mem hi')
   simpa [List.getD_eq_getElem?_getD,hi'] using this
 ·rw [hc] at h1 ⊢
  have hx:one x=true:=by simpa using h1
  rw [key h hx]
  refine ⟨rfl,fun i hi=>?_,fun i hi=>?_⟩
  ·have:i=0:=by simp at hi;exact hi
   subst this;simpa [Array.getD_eq_getD_getElem?] using h
  ·have:i=0:=by simp at hi;exact hi
   subst this;simpa [Array.getD_eq_getD_getElem?] using h.one hx
theorem run_newVar {w:World} {t:TypeId} {v:Value}:(newVar t v).run P w = .ok ⟨w.heap.size,0,none⟩ (w.alloc (.cells v.cells t)):=by
 simp [newVar,newRow]
theorem rep_newbox {c':Cx} {w:World} {xs:List LV} {cells:Array Value} {e:TypeId} (hw:c'.w=w.alloc (.cells cells e)) (hI:∀p,¬ c'.I w.heap.size p) (hs:cells.size=xs.length)
  (h1:∀p,p<cells.size→(cells.getD p undef).oneCell'=true) (hr:∀i,i<xs.length→Rep c' (xs.getD i .any) (cells.getD i undef) []):Rep c' (.lbox xs) (.pointer (some ⟨w.heap.size,0,none⟩)) [w.heap.size] :=
 .lbox xs _ cells e hs (by rw [hw];exact heap_alloc_new _ _) hI h1 hr
theorem ok_alloc {o:Oper} {q:Q} {t:TypeId} {ti:TI} (ho:o.op = .alloc t) (ht:tiOf P t=some ti):OpOk P q o (.lbox ti.zero) none q:=by
 obtain ⟨i,d,hi,hd,hkd,hlk,z,hz,hzs,hz1,hzl⟩:=tiOf_und ht
 refine op_val fun fr a c hr=>?_
 obtain ⟨ow,hr⟩:=hr
 obtain ⟨c',o',hw,hrel⟩:=hr.fresh (.cells z.cells t) z.cells t rfl (fun _=>False) (x:=.lbox ti.zero) (v:=.pointer (some ⟨c.w.heap.size,0,none⟩)) (fun c' hw _ hI=>⟨_,.inr rfl,by
  refine rep_newbox hw (fun p hp=>(hI p).1 hp) (by rw [hzl];simp) hz1 (fun i hi=>?_)
  rw [hzl,getD_toList_map _ _ (by rw [hzl] at hi;simpa using hi)];exact rep_ofVal _ _⟩)
 refine ⟨c',_,?_,⟨o',hrel⟩,fun _ _ h=>by cases h⟩
 rw [hw]
 simp [execOp,ho,Instr.alloc,zeroValue,typeInfo,hi,hz,run_newVar]
theorem ok_box {o:Oper} {q:Q} {t:TypeId} {ti:TI} {x:Operand} (ho:o.op = .box t x) (_ht:tiOf P t=some ti) (h1:(cellsOf (dup (ev q.E x))).all one=true):OpOk P q o (.lbox (cellsOf (dup (ev q.E x)))) none q:=by
 refine op_val fun fr a c hr=>?_
 obtain ⟨ow,hr⟩:=hr
 have hd:=hr.evd x
 obtain ⟨hs,_,ho1⟩:=rep_cells hd h1
 obtain ⟨c',o',hw,hrel⟩:=hr.fresh (.cells (a.eval x).cells t) (a.eval x).cells t rfl (fun _=>False) (x:=.lbox (cellsOf (dup (ev q.E x)))) (v:=.pointer (some ⟨c.w.heap.size,0,none⟩)) (fun c' hw hext hI=>⟨_,.inr rfl,by
  exact rep_newbox hw (fun p hp=>(hI p).1 hp) hs ho1 (rep_cells (hd.ext hext (fun g hg=>by simp at hg)) h1).2.1⟩)
 refine ⟨c',_,?_,⟨o',hrel⟩,fun _ _ h=>by cases h⟩
 rw [hw]
 simp [execOp,ho,Instr.box,run_newVar]
theorem Rel.boxR {fr:Fr} {q:Q} {a:Act} {c:Cx} {ow:Ow} (hr:RelO fr q a c [] [] ow) {d:Nat} (hne:0<(boxAt q.E d).length) :
  d<q.E.length∧q.E.getD d .any = .lbox (boxAt q.E d)∧∃g cur e,a.tmps.getD d undef = .pointer (some ⟨g,0,none⟩)∧ow (.env d)=[g]∧cur.size=(boxAt q.E d).length∧c.w.heap[g]? = some (.cells cur e (0,0))∧(∀p,¬ c.I g p) ∧
   (∀p,p<cur.size→(cur.getD p undef).oneCell'=true)∧∀i,i<(boxAt q.E d).length→Rep c ((boxAt q.E d).getD i .any) (cur.getD i undef) []:=by
 have hb:q.E.getD d .any = .lbox (boxAt q.E d):=by
  unfold boxAt at hne ⊢
  split<;>simp_all
 have hd:d<q.E.length:=by
  rcases Nat.lt_or_ge d q.E.length with h1|h1
  ·exact h1
  ·rw [List.getD_eq_getElem?_getD,List.getElem?_eq_none h1] at hb;simp at hb
 have r:=hr.env d hd
 rw [hb] at r
 generalize hv:a.tmps.getD d undef=v at r
 generalize hO:ow (.env d)=O at r
 cases r with
 |lbox _ g cur e hs hh hI h1 hr=>exact ⟨hd,hb,g,cur,e,rfl,rfl,hs,hh,hI,h1,hr⟩
theorem getD_part (xs:List LV) (o n i:Nat) (hi:i<n):((xs.drop o).take n).getD i .any=xs.getD (o+i) .any:=by
 simp only [List.getD_eq_getElem?_getD,List.getElem?_take,List.getElem?_drop]
 rw [if_pos hi]
theorem ok_load_own {o:Oper} {q:Q} {t:TypeId} {ti:TI} {x:Operand} {d p:Nat} (ho:o.op = .load t x) (ht:tiOf P t=some ti) (ha:q.addr x=some (d,p))
  (hb:p+ti.lk.length≤(boxAt q.E d).length) (hpos:0<ti.lk.length) (hl:isAggK ti.kd=false→ti.lk.length=1):OpOk P q o (part ti (boxAt q.E d) p) none q:=by
 obtain ⟨i,dd,hi,hd,hkd,hlk,_⟩:=tiOf_und ht
 refine op_pure fun fr a c hr=>?_
 obtain ⟨_,g',h1,h2⟩:=hr.addr ha
 obtain ⟨ow,hr⟩:=hr
 obtain ⟨hdl,hbx,g,cur,e,hv,hO,hs,hh,hI,ho1,hrep⟩:=Rel.boxR (d:=d) hr (by omega)
 rw [h1] at hv
 simp at hv
 subst hv
 have hcell:∀j,j<(boxAt q.E d).length→c.w.cell? ⟨g',j,none⟩=some (cur.getD j undef):=fun j hj=>by
  have:j<cur.size:=by rw [hs];exact hj
  simp [World.cell?,hh,this,Array.getD_eq_getD_getElem?]
 unfold part
 cases hk:isAggK ti.kd with
 |true =>
  simp only
  refine ⟨.agg ((List.range i.size).map fun j=>cur.getD (p+j) undef).toArray,?_,?_⟩
  ·have:=run_loadAt_agg (P:=P) (w:=c.w) hi hd (by rw [←hkd];exact hk) ⟨g',p,none⟩ (fun j=>cur.getD (p+j) undef) (fun j hj=>by
    have hj':j<ti.lk.length:=by rw [hlk];exact hj
    rw [Addr.add_lit];exact hcell (p+j) (by omega))
   simp [execOp,ho,h2,this]
  ·have hlen:((boxAt q.E d).drop p |>.take ti.lk.length).length=ti.lk.length:=by simp;omega
   refine .agg _ _ (by rw [hlen];simp [hlk]) (fun j hj=>?_)
   rw [hlen] at hj
   rw [getD_range_map _ (by rw [←hlk];exact hj),getD_part _ _ _ _ hj]
   exact hrep (p+j) (by omega)
 |false =>
  simp only
  have:=hl hk
  refine ⟨cur.getD p undef,?_,hrep p (by omega)⟩
  have:=run_loadAt_leaf (P:=P) (w:=c.w) hd (by rw [←hkd];exact hk) ⟨g',p,none⟩ _ (hcell p (by omega))
  simp [execOp,ho,h2,this]
end
end Go.Lm
namespace Go.Lm
section
variable {R:Type} {P:Program} {T:Nat→Option TI} {C:Nat→Hd R}
theorem setFrom_len:∀(vs xs:List LV) (o:Nat),(setFrom xs o vs).length=xs.length
 |[],xs,o=>rfl
 |v::vs,xs,o=>by simp [setFrom,setFrom_len vs]
theorem setFrom_get:∀(vs xs:List LV) (o i:Nat),i<xs.length→(setFrom xs o vs).getD i .any=if o≤i∧i<o+vs.length then vs.getD (i-o) .any else xs.getD i .any
 |[],xs,o,i,hi=>by rw [if_neg (fun h=>by simp at h;omega)];rfl
 |v::vs,xs,o,i,hi=>by
  simp only [setFrom]
  rw [setFrom_get vs (xs.set o v) (o+1) i (by simpa using hi)]
  by_cases h1:i=o
  ·subst h1
   rw [if_neg (by omega),if_pos (by simp)]
   simp [List.getD_eq_getElem?_getD,hi]
  ·have hset:(xs.set o v).getD i .any=xs.getD i .any:=by
    simp [List.getD_eq_getElem?_getD,List.getElem?_set_ne (Ne.symm h1)]
   by_cases h2:o+1≤i∧i<o+1+vs.length
   ·rw [if_pos h2,if_pos (by simp;omega)]
    have:i-o=(i-(o+1))+1:=by omega
    rw [this,List.getD_cons_succ]
   ·rw [if_neg h2,if_neg (by simp;omega),hset]
theorem getD_splice (cur:List Value) (vs:List Value) (o i:Nat) (h:o+vs.length≤cur.length) :
  ((cur.take o++vs++cur.drop (o+vs.length)).toArray).getD i undef=if o≤i∧i<o+vs.length then vs.getD (i-o) undef else cur.getD i undef:=by
 simp only [Array.getD_eq_getD_getElem?,List.getElem?_toArray,List.getD_eq_getElem?_getD]
 have ht:(cur.take o).length=o:=by simp;omega
 by_cases h1:i<o
 ·rw [List.append_assoc,List.getElem?_append_left (by omega),if_neg (by omega),List.getElem?_take,if_pos h1]
 ·by_cases h2:i<o+vs.length
  ·rw [if_pos ⟨by omega,h2⟩,List.getElem?_append_left (by simp;omega),List.getElem?_append_right (by omega),ht]
  ·rw [if_neg (by omega),List.getElem?_append_right (by simp;omega),List.getElem?_drop]
   congr 2
   simp;omega
theorem op_skip {q q':Q} {o:Oper}
  (h:∀(fr:Fr) (a:Act) (c:Cx),Rel fr q a c→∃c',(execOp a.eval o).run P c.w = .ok .skip c'.w∧Rel fr q' a c'):OpOk P q o .any none q':=by
 intro fr a c hr next Qp hn
 obtain ⟨c',h1,h2⟩:=h fr a c hr
 unfold Oper.wp
 rw [h1]
 obtain ⟨ow,h2⟩:=h2
 exact hn c' undef (h2.fly1 (.any _)) (fun _ _ h=>by cases h)
theorem ok_store {o:Oper} {q:Q} {t:TypeId} {ti:TI} {x y:Operand} {d p:Nat} (ho:o.op = .store t x y) (ht:tiOf P t=some ti) (ha:q.addr x=some (d,p))
  (hb:p+ti.lk.length≤(boxAt q.E d).length) (hpos:0<ti.lk.length) (hlen:(cellsOf (dup (ev q.E y))).length=ti.lk.length) (h1:(cellsOf (dup (ev q.E y))).all one=true) :
  OpOk P q o .any none { q with E:=q.E.set d (.lbox (setFrom (boxAt q.E d) p (cellsOf (dup (ev q.E y))))) }:=by
 obtain ⟨i,dd,hi,hd,hkd,hlk,_⟩:=tiOf_und ht
 refine op_skip fun fr a c hr=>?_
 obtain ⟨_,g',e1,e2⟩:=hr.addr ha
 obtain ⟨ow,hr⟩:=hr
 obtain ⟨hdl,hbx,g,cur,e,hv,hO,hs,hh,hI,ho1,hrep⟩:=Rel.boxR (d:=d) hr (by omega)
 rw [e1] at hv
 simp at hv
 subst hv
 have hyd:=hr.evd y
 obtain ⟨hys,hyr,hy1⟩:=rep_cells hyd h1
 generalize hvals:cellsOf (dup (ev q.E y))=vals at *
 generalize hbox:boxAt q.E d=box at *
 have hcl:(a.eval y).cells.toList.length=vals.length:=by simpa using hys
 have hst:=run_storeCells_at P g' p e (a.eval y).cells.toList 0 cur c.w hh (by rw [hcl];omega) (fun v hv=>by
  obtain ⟨j,hj,rfl⟩:=List.mem_iff_getElem.1 hv
  have:=hy1 j (by simpa using hj)
  simpa [Array.getD_eq_getD_getElem?,show j<(a.eval y).cells.size from by simpa using hj] using this)
 simp only [Nat.add_zero] at hst
 generalize hnew:(List.take p cur.toList++(a.eval y).cells.toList++List.drop (p+(a.eval y).cells.toList.length) cur.toList).toArray=new at hst
 have hnews:new.size=cur.size:=by subst hnew;simp;simp at hcl;omega
 have hnget:∀j,new.getD j undef=if p≤j∧j<p+vals.length then (a.eval y).cells.getD (j-p) undef else cur.getD j undef:=fun j=>by
  subst hnew
  rw [getD_splice _ _ _ _ (by simp;simp at hcl;omega),hcl]
  congr 1
  ·simp [List.getD_eq_getElem?_getD,Array.getD_eq_getD_getElem?]
  ·simp [List.getD_eq_getElem?_getD,Array.getD_eq_getD_getElem?]
 have hother:∀b,b≠g'→(c.w.setRow g' new).heap[b]? = c.w.heap[b]?:=fun b hb=>setRow_other c.w g' b new hb
 have hsize:(c.w.setRow g' new).heap.size=c.w.heap.size:=by simp [World.setRow]
 have hext:Ext c { c with w:=c.w.setRow g' new } (fun b=>b=g'):=⟨Nat.le_refl _,fun _ _=>rfl,fun _ _ h=>h,fun b o hb=>World.cell?_of_block (w:=c.w) (hother b (fun e=>by subst e;exact hI o hb)),by show _≤(c.w.setRow g' new).heap.size;omega,
  fun b _ hb=>hother b hb,fun _ _ _ _ h=>h,(fun b _ _ _ hb h=>by subst hb;rw [hh] at h;cases h;exact ⟨new,_,setRow_heap c.w _ cur new _ (0,0) hh,hnews⟩),rfl,rfl,rfl⟩
 refine ⟨{ c with w:=c.w.setRow g' new },?_,ow,by simpa using hr.len,by simpa using hr.alen,fun t' ht'=>?_,fun t' d' p' hp'=>by simpa using hr.al t' d' p' hp',⟨hr.sto.n,fun id hid=>?_,fun b p hb=>by show b<(c.w.setRow g' new).heap.size;rw [hsize];exact hr.sto.bd b p hb⟩,fun i hi=>absurd hi (by simp),rfl,hr.sep,?_,fun k g hg=>⟨by show g<(c.w.setRow g' new).heap.size;rw [hsize];exact (hr.own k g hg).1,(hr.own k g hg).2⟩,hr.df⟩
 ·have hsz:(a.eval y).cells.size=i.size:=by rw [hys,hlen,hlk]
  simp [execOp,ho,Instr.storeAt,Instr.sureAddr,storeVar,e2,sizeOf,typeInfo,hi,hsz,hst]
 ·have ht'':t'<q.E.length:=by simpa using ht'
  by_cases e:t'=d
  ·subst e
   have hset:(q.E.set t' (.lbox (setFrom box p vals))).getD t' .any = .lbox (setFrom box p vals):=by simp [List.getD_eq_getElem?_getD,ht'']
   show Rep _ ((q.E.set t' _).getD t' .any) _ _
   rw [hset,e1,hO]
   refine .lbox _ g' new _ (by rw [hnews,hs,setFrom_len]) (setRow_heap c.w g' cur new _ (0,0) hh) hI (fun j hj=>?_) (fun j hj=>?_)
   ·rw [hnget]
    split
    ·exact hy1 _ (by rw [hys];omega)
    ·exact ho1 j (by rw [←hnews];exact hj)
   ·rw [setFrom_len] at hj
    rw [setFrom_get _ _ _ _ hj,hnget]
    split
    ·exact (hyr _ (by omega)).ext hext (fun g hg=>by simp at hg)
    ·exact (hrep j hj).ext hext (fun g hg=>by simp at hg)
  ·have hset:(q.E.set d (.lbox (setFrom box p vals))).getD t' .any=q.E.getD t' .any:=by simp [List.getD_eq_getElem?_getD,List.getElem?_set_ne (Ne.symm e)]
   show Rep _ ((q.E.set d _).getD t' .any) _ _
   rw [hset]
   exact (hr.env t' ht'').ext hext (fun g hg e'=>by
    subst e'
    exact hr.sep.dj (.env t') (.env d) g (by simp [e]) hg (by rw [hO];simp))
 ·exact (hr.sto.r id hid).ext hext (fun g hg e'=>by
   subst e'
   exact hr.sep.dj (.sto id) (.env d) g (by simp) hg (by rw [hO];simp))
 ·refine hr.ext.trans hext (fun b hb hm=>?_)
  subst hm
  rcases (hr.own (.env d) b (by rw [hO];simp)).2 with h2|h2
  ·exact h2
  ·omega
theorem ok_field {o:Oper} {q:Q} {t:TypeId} {ti fti:TI} {x:Operand} {i fo n:Nat} {ft:TypeId} {xs:List LV} (ho:o.op = .field t x i) (ht:tiOf P t=some ti) (hf:ti.fs[i]? = some (fo,n,ft)) (hft:tiOf P ft=some fti)
  (hx:ev q.E x = .agg xs) (hb:fo+fti.lk.length≤xs.length) (hpos:0<fti.lk.length) (hl:isAggK fti.kd=false→fti.lk.length=1):OpOk P q o (part fti xs fo) none q:=by
 obtain ⟨fs,f,hd,hfi,hoff,hn,hfty,hn0⟩:=tiOf_fs ht hf
 obtain ⟨j,dd,hi,hdd,hkd,hlk,_⟩:=tiOf_und hft
 refine op_pure fun fr a c hr=>?_
 obtain ⟨O,r⟩:=hr.evr x
 rw [hx] at r
 generalize hv:a.eval x=z at r
 cases r with
 |agg _ cs hs hrep =>
  subst hfty
  unfold part
  cases hk:isAggK fti.kd with
  |true =>
   refine ⟨.agg (cs.extract fo (fo+j.size)),?_,?_⟩
   ·have h2:(isAgg f.type).run P c.w = .ok true c.w:=by
     rcases isAggK_of (by rw [←hkd];exact hk) with ⟨fs,rfl⟩|⟨n,e,rfl⟩<;>simp [isAgg,run_underlying hdd]
    simp [execOp,ho,Instr.field,run_underlying hd,hfi,hv,asAgg,Go.part,h2,hoff,sizeOf,typeInfo,hi]
   ·have hlen:((xs.drop fo).take fti.lk.length).length=fti.lk.length:=by simp;omega
    refine .agg _ _ (by rw [hlen];simp;omega) (fun p hp=>?_)
    rw [hlen] at hp
    rw [getD_part _ _ _ _ hp]
    have:(cs.extract fo (fo+j.size)).getD p undef=cs.getD (fo+p) undef:=by
     simp only [Array.getD_eq_getD_getElem?,Array.getElem?_extract]
     rw [if_pos (by omega)]
    rw [this]
    exact hrep _ (by omega)
  |false =>
   have hl1:=hl hk
   refine ⟨cs.getD fo undef,?_,hrep fo (by omega)⟩
   have h2:(isAgg f.type).run P c.w = .ok false c.w:=by
    rw [hkd] at hk
    cases dd<;>simp [kdOf,isAggK] at hk<;>simp [isAgg,run_underlying hdd]
   have h3:fo<cs.size:=by omega
   simp [execOp,ho,Instr.field,run_underlying hd,hfi,hv,asAgg,Go.part,h2,hoff,h3,Array.getD_eq_getD_getElem?]
end
end Go.Lm
namespace Go.Lm
section
variable {R:Type} {P:Program} {T:Nat→Option TI} {C:Nat→Hd R}
theorem info_of_cells {t:TypeId} (h:P.cellsOf t≠0):∃j,P.info? t=some j∧j.size=P.cellsOf t:=by
 unfold Program.cellsOf at h ⊢
 cases hq:P.info? t with
 |none=>rw [hq] at h;simp at h
 |some j=>exact ⟨j,rfl,by simp⟩
theorem placesL:∀(fs:List Field),(∀f,f∈fs→P.cellsOf f.type≠0) →
  (fs.mapM fun f=>(P.info? f.type).map fun i=>(f.offset,i.size))=some (fs.map fun f=>(f.offset,P.cellsOf f.type))
 |[],_=>by simp
 |f::fs,h=>by
  have ih:=placesL fs (fun f hf=>h f (List.mem_cons_of_mem _ hf))
  obtain ⟨j,hj,hjs⟩:=info_of_cells (h f (by simp))
  simp [List.mapM_cons,hj,ih,hjs]
theorem foldl_size (off:Nat):∀(vs:List (Value×Nat)) (cs:Array Value),(vs.foldl (fun cs (p:Value×Nat)=>cs.setIfInBounds (off+p.2) p.1) cs).size=cs.size
 |[],cs=>rfl
 |v::vs,cs=>by simp [foldl_size off vs]
theorem foldl_get (off:Nat):∀(vs:List Value) (k:Nat) (cs:Array Value) (i:Nat),off+k+vs.length≤cs.size →
  ((vs.zipIdx k).foldl (fun cs (p:Value×Nat)=>cs.setIfInBounds (off+p.2) p.1) cs).getD i undef=if off+k≤i∧i<off+k+vs.length then vs.getD (i-(off+k)) undef else cs.getD i undef
 |[],k,cs,i,_=>by rw [if_neg (fun h=>by simp at h;omega)];rfl
 |v::vs,k,cs,i,h=>by
  simp only [List.zipIdx_cons,List.foldl_cons]
  simp only [List.length_cons] at h
  rw [foldl_get off vs (k+1) _ i (by simp;omega)]
  by_cases h1:i=off+k
  ·subst h1
   rw [if_neg (by omega),if_pos (by simp)]
   have:off+k<cs.size:=by omega
   simp [Array.getD_eq_getD_getElem?,this]
  ·have hset:(cs.setIfInBounds (off+k) v).getD i undef=cs.getD i undef:=by
    simp [Array.getD_eq_getD_getElem?,Array.getElem?_setIfInBounds_ne (Ne.symm h1)]
   by_cases h2:off+(k+1)≤i∧i<off+(k+1)+vs.length
   ·rw [if_pos h2,if_pos (by simp;omega)]
    have:i-(off+k)=(i-(off+(k+1)))+1:=by omega
    rw [this,List.getD_cons_succ]
   ·rw [if_neg h2,if_neg (by simp;omega),hset]
theorem fill_one {c:Cx} {z:List LV} {cells:Array Value} {v:LV} {u:Value} {o n:Nat} (hs:cells.size=z.length) (hr:∀i,i<z.length→Rep c (z.getD i .any) (cells.getD i undef) [])
  (ho:∀i,i<cells.size→(cells.getD i undef).oneCell'=true) (hv:Rep c v u []) (hn:(cellsOf v).length=n) (h1:(cellsOf v).all one=true) (hb:o+n≤z.length) :
  let cells':=u.cells.zipIdx.foldl (fun cs (p:Value×Nat)=>cs.setIfInBounds (o+p.2) p.1) cells
  u.cells.size=n∧cells'.size=(setFrom z o (cellsOf v)).length∧(∀i,i<(setFrom z o (cellsOf v)).length→Rep c ((setFrom z o (cellsOf v)).getD i .any) (cells'.getD i undef) [])∧∀i,i<cells'.size→(cells'.getD i undef).oneCell'=true:=by
 obtain ⟨hus,hur,hu1⟩:=rep_cells hv h1
 have e:u.cells.zipIdx.foldl (fun cs (p:Value×Nat)=>cs.setIfInBounds (o+p.2) p.1) cells=(u.cells.toList.zipIdx 0).foldl (fun cs (p:Value×Nat)=>cs.setIfInBounds (o+p.2) p.1) cells:=by
  rw [←Array.foldl_toList];simp
 have hg:∀i,((u.cells.toList.zipIdx 0).foldl (fun cs (p:Value×Nat)=>cs.setIfInBounds (o+p.2) p.1) cells).getD i undef=if o≤i∧i<o+(cellsOf v).length then u.cells.getD (i-o) undef else cells.getD i undef:=fun i=>by
  rw [foldl_get o _ 0 _ _ (by simp;omega)]
  simp only [Nat.add_zero,Array.length_toList,hus]
  congr 1
  simp [List.getD_eq_getElem?_getD,Array.getD_eq_getD_getElem?]
 intro cells'
 have ec:cells'=(u.cells.toList.zipIdx 0).foldl (fun cs (p:Value×Nat)=>cs.setIfInBounds (o+p.2) p.1) cells:=e
 have hsz:cells'.size=cells.size:=by rw [ec];exact foldl_size o _ _
 refine ⟨by omega,by rw [hsz,setFrom_len,hs],fun i hi=>?_,fun i hi=>?_⟩
 ·rw [setFrom_len] at hi
  rw [setFrom_get _ _ _ _ hi,ec,hg]
  split
  ·exact hur _ (by omega)
  ·exact hr i hi
 ·rw [ec,hg]
  split
  ·exact hu1 _ (by omega)
  ·exact ho i (by omega)
theorem fillP_ok {c:Cx} {fs:List (Nat×Nat×TypeId)} {place:Nat→Option (Nat×Nat)} (hp:∀i o n t,fs[i]? = some (o,n,t)→place i=some (o,n)) :
  ∀(is:List Nat) (vs:List LV) (us:List Value) (z:List LV) (cells:Array Value) (z':List LV),fillP fs is vs z=some z'→is.length=us.length→(∀i,i<us.length→Rep c (vs.getD i .any) (us.getD i undef) []) →
   cells.size=z.length→(∀i,i<z.length→Rep c (z.getD i .any) (cells.getD i undef) [])→(∀i,i<cells.size→(cells.getD i undef).oneCell'=true) →
   ∃cells',Instr.fill place cells (is.zip us)=some cells'∧cells'.size=z'.length∧(∀i,i<z'.length→Rep c (z'.getD i .any) (cells'.getD i undef) [])∧∀i,i<cells'.size→(cells'.getD i undef).oneCell'=true
 |[],vs,us,z,cells,z',h,hl,hu,hs,hr,ho=>by
  simp only [fillP] at h;cases h
  exact ⟨cells,rfl,hs,hr,ho⟩
 |i::is,vs,[],z,cells,z',h,hl,hu,hs,hr,ho=>by simp at hl
 |i::is,vs,u::us,z,cells,z',h,hl,hu,hs,hr,ho=>by
  simp only [fillP] at h
  split at h
  ·rename_i o n t v vs' hf
   split at h
   ·rename_i hb
    rw [Bool.and_eq_true,Bool.and_eq_true] at hb
    have hn:=Nat.eq_of_beq_eq_true hb.1.1
    have hle:=Nat.le_of_ble_eq_true hb.2
    have hv:Rep c v u []:=by simpa using hu 0 (by simp)
    obtain ⟨h1,h2,h3,h4⟩:=fill_one hs hr ho hv hn hb.1.2 hle
    obtain ⟨cells',hf',hrest⟩:=fillP_ok hp is vs' us _ _ z' h (by simpa using hl) (fun j hj=>by simpa using hu (j+1) (by simp;omega)) h2 h3 h4
    refine ⟨cells',?_,hrest⟩
    simp only [List.zip_cons_cons,Instr.fill,hp i o n t hf]
    rw [if_neg (by simp;omega)]
    exact hf'
   ·cases h
  ·cases h
theorem ok_build {o:Oper} {q:Q} {t:TypeId} {ti:TI} {ps:Array (Nat×Operand)} {z:List LV} (ho:o.op = .build t ps) (ht:tiOf P t=some ti) (hk:ti.kd = .struct)
  (hz:fillP ti.fs (ps.toList.map (·.1)) (ps.toList.map fun p=>dup (ev q.E p.2)) ti.zero=some z):OpOk P q o (.agg z) none q:=by
 obtain ⟨i,d,hi,hd,hkd,hlk,z0,hz0,hzs,hz1,hzl⟩:=tiOf_und ht
 obtain ⟨fs,hdf,hfs,hn⟩:=tiOf_struct ht hk
 refine op_pure fun fr a c hr=>?_
 obtain ⟨cells',h1,h2,h3,h4⟩:=fillP_ok (c:=c) (place:=(((fs.toList.map fun f=>(f.offset,P.cellsOf f.type)).toArray)[·]?)) (fun i o n t hf=>by
   rw [hfs,List.getElem?_map] at hf
   cases hq:fs.toList[i]? with
   |none=>rw [hq] at hf;simp at hf
   |some f=>rw [hq] at hf;simp at hf;simp;have:=hq;simp at this;exact ⟨f,this,hf.1,hf.2.1⟩)
  _ _ (ps.toList.map fun p=>a.eval p.2) _ z0.cells z hz (by simp) (fun j hj=>by
   have hj':j<ps.size:=by simpa using hj
   have:=hr.evd (ps[j]).2
   simpa [List.getD_eq_getElem?_getD,hj'] using this) (by rw [hzl];simp) (fun j hj=>by
   rw [hzl,getD_toList_map _ _ (by rw [hzl] at hj;simpa using hj)];exact rep_ofVal _ _) hz1
 refine ⟨.agg cells',?_,.agg z cells' h2 h3⟩
 have hb:P.built t ((ps.map fun p=>(p.1,a.eval p.2)).toList)=some cells':=by
  unfold Program.built
  rw [hi,hdf]
  simp only [hz0,placesL fs.toList hn]
  rw [←h1]
  congr 1
  simp only [Array.toList_map]
  induction ps.toList with
  |nil=>rfl
  |cons p l ih=>simp [ih]
 have:=run_build (P:=P) c.w t _ cells' hb
 simp [execOp,ho,this]
end
end Go.Lm
namespace Go.Lm
section
variable {R:Type} {P:Program} {T:Nat→Option TI} {C:Nat→Hd R}
theorem RelO.turn {fr:Fr} {q:Q} {a:Act} {c:Cx} {x:LV} {v:Value} {o:Ow} (h:RelO fr q a c [x] [v] o) {c':Cx} {M:Nat→Prop} (he:Ext c c' M) (hM:∀b,M b→b∈o (.arg 0)) (hn:c'.n=c.n)
  (hbd:∀b p,c'.I b p→b<c'.w.heap.size) {x':LV} {v':Value} {O':List Nat} (hr:Rep c' x' v' O') (hO:∀g,g∈O'→g∈o (.arg 0)∨c.w.heap.size≤g) (hnd:O'.Nodup):RelX fr q a c' [x'] [v']:=by
 have rep:∀{y:LV} {u:Value} {k:Key},k≠.arg 0→Rep c y u (o k)→Rep c' y u (o k):=fun {y u k} hk r=>r.ext he (fun g hg hm=>h.sep.dj k (.arg 0) g hk hg (hM g hm))
 refine ⟨upd o (.arg 0) O',h.len,h.alen,fun t ht=>?_,h.al,⟨by rw [hn];exact h.sto.n,fun id hid=>?_,hbd⟩,fun i hi=>?_,rfl,⟨fun k=>?_,fun k k' g hne hg=>?_⟩,?_,fun k g hg=>?_,h.df⟩
 ·rw [upd_other _ _ (by simp)];exact rep (by simp) (h.env t ht)
 ·rw [upd_other _ _ (by simp),he.ι id (by rw [h.sto.n];exact hid)];exact rep (by simp) (h.sto.r id hid)
 ·have:i=0:=by simp at hi;exact hi
  subst this;rw [upd_same];exact hr
 ·unfold upd;split
  ·exact hnd
  ·exact h.sep.nd k
 ·have hlt:∀k g,g∈o k→g<c.w.heap.size:=fun k g hg=>(h.own k g hg).1
  unfold upd at hg ⊢
  split at hg
  ·rename_i hk
   split
   ·rename_i hk';exact absurd (hk.trans hk'.symm) hne
   ·rename_i hk'
    rcases hO g hg with h1|h1
    ·exact h.sep.dj _ _ g (fun e=>hk' e.symm) h1
    ·intro h2;have:=hlt _ _ h2;omega
  ·rename_i hk
   split
   ·intro hg'
    rcases hO g hg' with h1|h1
    ·exact h.sep.dj _ _ g hk hg h1
    ·have:=hlt _ _ hg;omega
   ·exact h.sep.dj _ _ g hne hg
 ·refine h.ext.trans he (fun b hb hm=>?_)
  rcases (h.own _ b (hM b hm)).2 with h1|h1
  ·exact h1
  ·omega
 ·unfold upd at hg
  split at hg
  ·refine ⟨hr.lt g hg,?_⟩
   rcases hO g hg with h1|h1
   ·exact (h.own _ g h1).2
   ·exact .inr (Nat.le_trans h.ext.size h1)
  ·exact ⟨Nat.lt_of_lt_of_le (h.own k g hg).1 he.size,(h.own k g hg).2⟩
theorem cells_of_reads {c:Cx} {sz n b off:Nat} {cv:Nat→Value} (hc:∀p,p<n*sz→c.w.cell? ⟨b,off+p,none⟩=some (cv p)) :
  ∀j u,((List.range (n*sz)).map cv)[j]? = some u→c.w.cell? ((⟨b,off,none⟩:Addr).add j)=some u:=by
 intro j u hu
 rw [Addr.add_lit]
 simp only [List.getElem?_map] at hu
 by_cases hj:j<n*sz
 ·simp [hj] at hu;rw [←hu];exact hc j hj
 ·rw [List.getElem?_eq_none (by simp;omega)] at hu;simp at hu
theorem src_of {c:Cx} {t e:TypeId} {i:TypeInfo} {sz:Nat} {xs:List LV} {v:Value} (hd:P.underlying t=some (.slice e)) (hsz:i.size=sz) (h:Rep c (.sl sz xs) v []) :
  ∃news:List Value,Src P i.size t v xs.length news c.w∧news.length=xs.length*sz∧(∀p,p<xs.length*sz→(news.getD p undef).oneCell'=true)∧∀p,p<xs.length*sz→Rep c (leaf (xs.getD (p / sz) .any) (p % sz)) (news.getD p undef) []:=by
 subst hsz
 obtain ⟨A,cap,rfl,hcap,hmax,hcells⟩:=rep_sl h
 rcases Nat.eq_zero_or_pos xs.length with h0|h0
 ·refine ⟨[],?_,by simp [h0],fun p hp=>by simp [h0] at hp,fun p hp=>by simp [h0] at hp⟩
  rw [h0]
  cases A with
  |none=>exact Src.ofNil c.w hd cap
  |some ad=>exact Src.ofSlice c.w hd ad 0 cap [] (by simp) (by simp) (by simp)
 ·obtain ⟨b,off,cv,rfl,hc,hI,h1,hr⟩:=hcells h0
  refine ⟨(List.range (xs.length*i.size)).map cv,Src.ofSlice c.w hd _ _ _ _ (by simp) (cells_of_reads hc) (fun u hu=>?_),by simp,fun p hp=>?_,fun p hp=>?_⟩
  ·obtain ⟨p,hp,rfl⟩:=List.mem_map.1 hu
   exact h1 p (by simpa using hp)
  ·simpa [List.getD_eq_getElem?_getD,hp] using h1 p hp
  ·simpa [List.getD_eq_getElem?_getD,hp] using hr p hp
theorem run_append_room_row {w:World} {t tx ty e e':TypeId} {i:TypeInfo} (ht:P.underlying t=some (.slice e)) (hi:P.info? e=some i) (g sLen sCap:Nat) (cur:Array Value) (hg:w.heap[g]? = some (.cells cur e' (0,0)))
  (x:Value) (n:Nat) (news:List Value) (hs:Src P i.size tx x n news w) (hroom:sLen+n≤sCap) (hfit:sLen*i.size+news.length≤cur.size) :
  (Builtin.append_ #[t,tx] ty #[.slice (some ⟨g,0,none⟩) sLen sCap,x]).run P w =
   .ok (.slice (some ⟨g,0,none⟩) (sLen+n) sCap) (w.setRow g (cur.toList.take (sLen*i.size)++news++cur.toList.drop (sLen*i.size+news.length)).toArray):=by
 have hst:=run_storeCells_at P g (sLen*i.size) e' news 0 cur w hg (by simpa using hfit) hs.one
 simp only [Nat.add_zero] at hst
 rcases hs.kind with ⟨e',hk⟩|hk<;>simp [Builtin.append_,run_underlying ht,run_underlying hk,sizeOf,typeInfo,hi,hs.len,hroom,hs.cells,Addr.add_lit,hst]
theorem getD_app3 (xs ys:List LV) (i:Nat):(xs++ys).getD i .any=if i<xs.length then xs.getD i .any else ys.getD (i-xs.length) .any:=by
 simp only [List.getD_eq_getElem?_getD]
 split
 ·rename_i h;rw [List.getElem?_append_left h]
 ·rename_i h;rw [List.getElem?_append_right (by omega)]
theorem leaf_app {sz:Nat} (ys xs:List LV) (p:Nat) (hp:p<(ys.length+xs.length)*sz) :
  leaf ((ys++xs).getD (p / sz) .any) (p % sz)=if p<ys.length*sz then leaf (ys.getD (p / sz) .any) (p % sz) else leaf (xs.getD ((p-ys.length*sz) / sz) .any) ((p-ys.length*sz) % sz):=by
 have hsz:0<sz:=Nat.pos_of_ne_zero fun e=>by subst e;simp at hp
 rw [getD_app3]
 by_cases h:p<ys.length*sz
 ·rw [if_pos h,if_pos (Nat.div_lt_of_lt_mul (by rw [Nat.mul_comm];exact h))]
 ·rw [if_neg h]
  obtain ⟨m,rfl⟩:∃m,p=m+ys.length*sz:=⟨p-ys.length*sz,by omega⟩
  rw [Nat.add_mul_div_right _ _ hsz,Nat.add_mul_mod_self_right,if_neg (Nat.not_lt.2 (Nat.le_add_left _ _)),Nat.add_sub_cancel,Nat.add_sub_cancel]
theorem src_str {c:Cx} {t:TypeId} {s:ByteArray} {v:Value} {O:List Nat} (hd:P.underlying t=some .string) (h:Rep c (.str s) v O) :
  ∃news:List Value,Src P 1 t v (bytesL s).length news c.w∧news.length=(bytesL s).length*1∧(∀p,p<(bytesL s).length*1→(news.getD p undef).oneCell'=true)∧∀p,p<(bytesL s).length*1→Rep c (leaf ((bytesL s).getD (p / 1) .any) (p % 1)) (news.getD p undef) []:=by
 obtain rfl:v = .string s:=by cases h;rfl
 have hl:(bytesL s).length=s.size:=by
  unfold bytesL;rw [List.length_map,Array.length_toList];rfl
 have hg:∀p,p<s.size→(byteCells s).getD p undef = .int .u8 (s.data.toList.getD p 0).toNat∧(bytesL s).getD p .any = .int .u8 (s.data.toList.getD p 0).toNat:=fun p hp=>by
  have hp':p<s.data.toList.length:=by rw [Array.length_toList];exact hp
  constructor
  ·unfold byteCells;simp only [List.getD_eq_getElem?_getD,List.getElem?_map,List.getElem?_eq_getElem hp'];rfl
  ·unfold bytesL;simp only [List.getD_eq_getElem?_getD,List.getElem?_map,List.getElem?_eq_getElem hp'];rfl
 refine ⟨byteCells s,by rw [hl];exact Src.ofString c.w hd s,by rw [byteCells_length,hl,Nat.mul_one],fun p hp=>?_,fun p hp=>?_⟩
 ·rw [(hg p (by omega)).1];rfl
 ·rw [Nat.div_one,Nat.mod_one,(hg p (by omega)).1,(hg p (by omega)).2]
  exact .int _ _
theorem ok_append {o:Oper} {q:Q} {x y:Operand} {t t' e:TypeId} {i:TypeInfo} {z:Value} {sz:Nat} {ys xs:List LV} (ho:o.op = .call { callee:=.builtin .append,args:=#[x,y],argTypes:=#[t,t'] })
  (hd:P.underlying t=some (.slice e)) (hi:P.info? e=some i) (hsz:i.size=sz) (hz:i.zero=some z) (hzs:z.cells.size=i.size)
  (hzo:∀p,p<z.cells.size→(z.cells.getD p undef).oneCell'=true)
  (hx:ev q.E x = .own e sz ys∨(ev q.E x = .nilsl∧ys=[])) (hy:∀{c:Cx} {w:Value} {O:List Nat},Rep c (ev q.E y) w O→∃news:List Value,Src P sz t' w xs.length news c.w∧news.length=xs.length*sz∧(∀p,p<xs.length*sz→(news.getD p undef).oneCell'=true)∧∀p,p<xs.length*sz→Rep c (leaf (xs.getD (p / sz) .any) (p % sz)) (news.getD p undef) [])
  (hb:(ys.length+xs.length)*i.bytes≤140737488355328) (h63:ys.length+xs.length≤9223372036854775807):OpOk P q o (.own e sz (ys++xs)) none (q.used x):=by
 refine op_val fun fr a c hr=>?_
 obtain ⟨ow,hr⟩:=hr
 obtain ⟨Oy,ry⟩:=hr.evo y
 obtain ⟨news,hsrc,hnl,hn1,hnr⟩:=hy ry
 obtain ⟨o1,h1⟩:=hr.take x
 simp only [List.nil_append] at h1
 have hfly:=h1.fly 0 (by simp)
 simp only [List.getD_cons_zero] at hfly
  
 have hown:Rep c (.own e sz ys) (a.eval x) (o1 (.arg 0)):=by
  rcases hx with hx|⟨hx,rfl⟩
  ·rw [hx] at hfly;exact hfly
  ·rw [hx] at hfly
   generalize hv:a.eval x=v at hfly
   generalize hO:o1 (.arg 0)=O at hfly
   cases hfly
   exact .own0 e sz
 rw [←hsz] at hsrc
 have run_it:∀{v:Value} {w':World},(Builtin.append_ #[t,t'] o.type #[a.eval x,a.eval y]).run P c.w = .ok v w'→(execOp a.eval o).run P c.w = .ok (.value v) w':=fun {v w'} h =>
  run_call_builtin ho (by simp [builtin,h])
  
 have grow:∀(base:Option Addr) (cap:Nat) (olds:List Value),a.eval x = .slice base ys.length cap→cap<ys.length+xs.length→olds.length=ys.length*sz→(∀p,p<ys.length*sz→(olds.getD p undef).oneCell'=true) →
   (∀p,p<ys.length*sz→Rep c (leaf (ys.getD (p / sz) .any) (p % sz)) (olds.getD p undef) [])→(Builtin.firstCells i.size ys.length (.slice base ys.length cap)).run P c.w.drew = .ok olds.toArray c.w.drew →
   ∃c' v,(execOp a.eval o).run P c.w = .ok (.value v) c'.w∧RelX fr (q.used x) a c' [.own e sz (ys++xs)] [v]∧∀e p,(none:Option (Nat×Nat))=some (e,p)→e<(q.used x).E.length∧∃g,a.tmps.getD e undef = .pointer (some ⟨g,0,none⟩)∧v = .pointer (some ⟨g,p,none⟩):=by
  intro base cap olds hv hcap hol ho1 hor hfirst
  have hrun:=run_append_grow_src (P:=P) c.w t t' o.type e i z hd hi hz base ys.length cap olds hfirst (a.eval y) xs.length news hsrc hcap (by omega) (growslice_fits (by omega) hb)
  generalize hcells:((olds++news).toArray++Builtin.zeroCells z.cells (grownCap c.w (ys.length+xs.length) cap e-(ys.length+xs.length)))=cells at hrun
  have hge:=grownCap_ge c.w (ys.length+xs.length) cap e
  have hle:grownCap c.w (ys.length+xs.length) cap e≤9223372036854775807:=grownCap_le_maxLen c.w (ys.length+xs.length) cap e (by unfold maxLen;omega)
  generalize hcap':grownCap c.w (ys.length+xs.length) cap e=cap' at *
  have hsize:cells.size=cap'*sz:=by
   subst hcells
   simp only [Array.size_append,List.size_toArray,List.length_append,size_zeroCells,hol,hnl,hzs,hsz,←Nat.add_mul]
   congr 1;omega
  have hget:∀p,p<(ys.length+xs.length)*sz→cells.getD p undef=if p<ys.length*sz then olds.getD p undef else news.getD (p-ys.length*sz) undef:=fun p hp=>by
   subst hcells
   have hl2:(olds++news).length=(ys.length+xs.length)*sz:=by rw [List.length_append,hol,hnl,Nat.add_mul]
   simp only [Array.getD_eq_getD_getElem?,List.getD_eq_getElem?_getD]
   rw [Array.getElem?_append_left (by simpa [hl2] using hp)]
   simp only [List.getElem?_toArray]
   split
   ·rename_i h;rw [List.getElem?_append_left (by omega)]
   ·rename_i h;rw [List.getElem?_append_right (by omega),hol]
  let c':Cx:={ c with I:=fun b p=>c.I b p∨(b=c.w.heap.size∧p<(ys.length+xs.length)*sz),w:=c.w.drew.alloc (.cells cells e) }
  have hlt:∀b,b<c.w.heap.size→(c.w.drew.alloc (.cells cells e)).heap[b]? = c.w.heap[b]?:=fun b hb=>by
   show (c.w.heap.push _)[b]? = _
   rw [Array.getElem?_push,if_neg (by omega)]
  have hext:Ext c c' (fun _=>False):=⟨Nat.le_refl _,fun _ _=>rfl,fun b p hp=>.inl hp,fun b p hp=>World.cell?_of_block (w:=c.w) (hlt b (hr.sto.bd b p hp)),by show _≤(c.w.heap.push _).size;simp,fun b hb _=>hlt b hb,
   fun b p hb _ hp=>by
    rcases hp with hp|hp
    ·exact hp
    ·omega,(fun _ _ _ _ h _=>False.elim h),rfl,rfl,rfl⟩
  have hI:∀p,c'.I c.w.heap.size p ↔ p<(ys++xs).length*sz:=fun p=>by
   rw [List.length_append]
   exact ⟨fun hp=>by
    rcases hp with hp|hp
    ·have:=hr.sto.bd _ _ hp;omega
    ·exact hp.2,fun hp=>.inr ⟨rfl,hp⟩⟩
  have hall:∀p,p<cells.size→(cells.getD p undef).oneCell'=true:=fun p hp=>by
   by_cases h:p<(ys.length+xs.length)*sz
   ·rw [hget p h]
    split
    ·rename_i h2;exact ho1 p h2
    ·rename_i h2;exact hn1 _ (by rw [Nat.add_mul] at h;omega)
   ·have hl2:(olds++news).length=(ys.length+xs.length)*sz:=by rw [List.length_append,hol,hnl,Nat.add_mul]
    subst hcells
    simp only [Array.getD_eq_getD_getElem?]
    rw [Array.getElem?_append_right (by simp [hl2];omega)]
    unfold Builtin.zeroCells
    simp only [List.size_toArray,hl2]
    have hp':p-(ys.length+xs.length)*sz<(cap'-(ys.length+xs.length))*z.cells.size:=by
     simp only [Array.size_append,List.size_toArray,hl2,size_zeroCells] at hp;omega
    have hz0:0<z.cells.size:=Nat.pos_of_ne_zero fun e=>by rw [e] at hp';simp at hp'
    have hm:=Nat.mod_lt (p-(ys.length+xs.length)*sz) hz0
    have:=hzo _ hm
    simpa [hp',hm,Array.getD_eq_getD_getElem?] using this
  have hrep:Rep c' (.own e sz (ys++xs)) (.slice (some ⟨c.w.heap.size,0,none⟩) (ys++xs).length cap') [c.w.heap.size]:=by
   refine .own e sz _ cap' (ys++xs) cells (by rw [List.length_append];exact hge) hle (heap_alloc_new c.w.drew _) hsize hI hall (fun p hp=>?_)
   rw [List.length_append] at hp
   rw [leaf_app ys xs p hp,hget p hp]
   split
   ·rename_i h;exact (hor p h).ext hext (fun g hg=>by simp at hg)
   ·rename_i h;exact (hnr _ (by rw [Nat.add_mul] at hp;omega)).ext hext (fun g hg=>by simp at hg)
  refine ⟨c',.slice (some ⟨c.w.heap.size,0,none⟩) (ys++xs).length cap',?_,?_,fun _ _ h=>by cases h⟩
  ·rw [List.length_append];exact run_it (by rw [hv];exact hrun)
  ·exact h1.turn hext (fun _ h=>h.elim) rfl (fun b p hp=>by
    show b<(c.w.heap.push _).size
    rcases hp with hp|hp
    ·have:=hr.sto.bd b p hp;simp;omega
    ·simp;omega) hrep (fun g hg=>by simp at hg;subst hg;exact .inr (Nat.le_refl _)) (by simp)
 generalize hv:a.eval x=v at hown
 generalize hO:o1 (.arg 0)=O at hown
 cases hown with
 |own0 =>
  by_cases hm:xs.length=0
  ·have hxs:xs=[]:=List.eq_nil_of_length_eq_zero hm
   subst hxs
   refine ⟨c,.slice none 0 0,run_it ?_,⟨o1,?_⟩,fun _ _ h=>by cases h⟩
   ·rw [hv]
    have hl:=hsrc.len
    have hc:=hsrc.cells
    simp only [List.length_nil] at hl hc
    have hn0:news=[]:=List.eq_nil_of_length_eq_zero (by simpa using hnl)
    subst hn0
    rcases hsrc.kind with ⟨e',hk⟩|hk<;>simp [Builtin.append_,run_underlying hd,run_underlying hk,sizeOf,typeInfo,hi,hl,hc]
   ·refine ⟨h1.len,h1.alen,h1.env,h1.al,h1.sto,fun k hk=>?_,rfl,h1.sep,h1.ext,h1.own,h1.df⟩
    have:k=0:=by simp at hk;exact hk
    subst this;rw [hO];exact .own0 e sz
  ·refine grow none 0 [] hv (by simp;omega) (by simp) (fun p hp=>by simp at hp) (fun p hp=>by simp at hp) ?_
   simp [Builtin.firstCells]
 |own _ _ g cap _ cur hcap hmax hh hs hI ho1 hr1 =>
  by_cases hroom:ys.length+xs.length≤cap
  ·have hfit:ys.length*i.size+news.length≤cur.size:=by rw [hnl,hs,hsz,←Nat.add_mul];exact Nat.mul_le_mul_right _ hroom
   have hrun:=run_append_room_row (P:=P) (ty:=o.type) hd hi g ys.length cap cur hh (a.eval y) xs.length news hsrc hroom hfit
   generalize hnew:(List.take (ys.length*i.size) cur.toList++news++List.drop (ys.length*i.size+news.length) cur.toList).toArray=new at hrun
   have hnews:new.size=cur.size:=by subst hnew;simp;omega
   have hnget:∀p,new.getD p undef=if ys.length*sz≤p∧p<(ys.length+xs.length)*sz then news.getD (p-ys.length*sz) undef else cur.getD p undef:=fun p=>by
    subst hnew
    rw [getD_splice _ _ _ _ (by simp;omega),hnl,hsz,←Nat.add_mul]
    congr 1
    simp [List.getD_eq_getElem?_getD,Array.getD_eq_getD_getElem?]
   have hother:∀b,b≠g→(c.w.setRow g new).heap[b]? = c.w.heap[b]?:=fun b hb=>setRow_other c.w g b new hb
   have hsize:(c.w.setRow g new).heap.size=c.w.heap.size:=by simp [World.setRow]
   let c':Cx:={ c with I:=fun b p=>c.I b p∨(b=g∧p<(ys.length+xs.length)*sz),w:=c.w.setRow g new }
   have hglt:g<c.w.heap.size:=(Array.getElem?_eq_some_iff.1 hh).1
   have hext:Ext c c' (fun b=>b=g):=⟨Nat.le_refl _,fun _ _=>rfl,fun b p hp=>.inl hp,fun b p hp=>by
     by_cases e:b=g
     ·subst e
      have hp':=(hI p).1 hp
      have hle:ys.length*sz≤cur.size:=by rw [hs];exact Nat.mul_le_mul_right _ hcap
      have e1:(c.w.setRow b new).cell? ⟨b,p,none⟩=some (new.getD p undef):=by
       have:p<new.size:=by omega
       simp [World.cell?,setRow_heap c.w b cur new e (0,0) hh,this,Array.getD_eq_getD_getElem?]
      have e2:c.w.cell? ⟨b,p,none⟩=some (cur.getD p undef):=by
       have:p<cur.size:=by omega
       simp [World.cell?,hh,this,Array.getD_eq_getD_getElem?]
      show (c.w.setRow b new).cell? _=_
      rw [e1,e2,hnget,if_neg (by omega)]
     ·exact World.cell?_of_block (w:=c.w) (hother b e),by show _≤(c.w.setRow g new).heap.size;omega,
    fun b _ hb=>hother b hb,fun b p _ hb hp=>by
     rcases hp with hp|hp
     ·exact hp
     ·exact absurd hp.1 hb,(fun b _ _ _ hb h=>by subst hb;rw [hh] at h;cases h;exact ⟨new,_,setRow_heap c.w _ cur new _ (0,0) hh,hnews⟩),rfl,rfl,rfl⟩
   have hIc:∀p,c'.I g p ↔ p<(ys++xs).length*sz:=fun p=>by
    rw [List.length_append]
    exact ⟨fun hp=>by
     rcases hp with hp|hp
     ·have:=(hI p).1 hp;rw [Nat.add_mul];omega
     ·exact hp.2,fun hp=>.inr ⟨rfl,hp⟩⟩
   have hrep:Rep c' (.own e sz (ys++xs)) (.slice (some ⟨g,0,none⟩) (ys++xs).length cap) [g]:=by
    refine .own e sz g cap (ys++xs) new (by rw [List.length_append];exact hroom) hmax (setRow_heap c.w g cur new e (0,0) hh) (by rw [hnews,hs]) hIc (fun p hp=>?_) (fun p hp=>?_)
    ·rw [hnget]
     split
     ·rename_i h;exact hn1 _ (by rw [Nat.add_mul] at h;omega)
     ·exact ho1 p (by omega)
    ·rw [List.length_append] at hp
     rw [leaf_app ys xs p hp,hnget]
     by_cases h:p<ys.length*sz
     ·rw [if_pos h,if_neg (by omega)];exact (hr1 p h).ext hext (fun g hg=>by simp at hg)
     ·rw [if_neg h,if_pos ⟨by omega,hp⟩];exact (hnr _ (by rw [Nat.add_mul] at hp;omega)).ext hext (fun g hg=>by simp at hg)
   refine ⟨c',.slice (some ⟨g,0,none⟩) (ys++xs).length cap,?_,?_,fun _ _ h=>by cases h⟩
   ·rw [List.length_append];exact run_it (by rw [hv];exact hrun)
   ·exact h1.turn hext (fun b hb=>by rw [hO];simpa using hb) rfl (fun b p hp=>by
     show b<(c.w.setRow g new).heap.size
     rw [hsize]
     rcases hp with hp|hp
     ·exact hr.sto.bd b p hp
     ·rw [hp.1];exact hglt) hrep (fun g' hg'=>by simp at hg';subst hg';rw [hO];exact .inl (by simp)) (by simp)
  ·refine grow (some ⟨g,0,none⟩) cap (cur.toList.take (ys.length*sz)) hv (by omega) ?_ (fun p hp=>?_) (fun p hp=>?_) ?_
   ·have:ys.length*sz≤cur.size:=by rw [hs];exact Nat.mul_le_mul_right _ hcap
    simp;omega
   ·have:p<cur.size:=by rw [hs];exact Nat.lt_of_lt_of_le hp (Nat.mul_le_mul_right _ hcap)
    have h2:=ho1 p this
    simpa [List.getD_eq_getElem?_getD,List.getElem?_take,hp,Array.getD_eq_getD_getElem?] using h2
   ·have h2:=hr1 p hp
    simpa [List.getD_eq_getElem?_getD,List.getElem?_take,hp,Array.getD_eq_getD_getElem?] using h2
   ·have hle:ys.length*sz≤cur.size:=by rw [hs];exact Nat.mul_le_mul_right _ hcap
    refine run_firstCells_some c.w.drew i.size ys.length _ _ _ _ (by simp [hsz];omega) (fun j v hj=>?_)
    rw [Addr.add_lit]
    rw [List.getElem?_take] at hj
    split at hj
    ·rename_i hjl
     have:j<cur.size:=by omega
     simp [this] at hj
     subst hj
     show c.w.cell? _=_
     simp [World.cell?,hh,this]
    ·cases hj
end
end Go.Lm
namespace Go.Lm
section
variable {R:Type} {P:Program} {T:Nat→Option TI} {C:Nat→Hd R}
theorem RelO.fresh' {fr:Fr} {q:Q} {a:Act} {c:Cx} {xs:List LV} {vs:List Value} {o:Ow} (h:RelO fr q a c xs vs o) (w':World) (hsame:∀b,b<c.w.heap.size→w'.heap[b]? = c.w.heap[b]?) (hsz:w'.heap.size=c.w.heap.size+1)
  (hos:w'.os=c.w.os) (htp:w'.tape=c.w.tape) (hout:w'.output=c.w.output) (J:Nat→Prop)
  {x:LV} {v:Value} (hr:∀c':Cx,c'.w=w'→Ext c c' (fun _=>False)→(∀p,c'.I c.w.heap.size p ↔ J p)→(∃O,(O=[]∨O=[c.w.heap.size])∧Rep c' x v O)) :
  ∃c' o',c'.w=w'∧RelO fr q a c' (xs++[x]) (vs++[v]) o':=by
 let c':Cx:={ c with I:=fun b p=>c.I b p∨(b=c.w.heap.size∧J p),w:=w' }
 have hext:Ext c c' (fun _=>False):=⟨Nat.le_refl _,fun _ _=>rfl,fun b p hp=>.inl hp,fun b p hp=>World.cell?_of_block (w:=c.w) (hsame b (h.sto.bd b p hp)),by show _≤w'.heap.size;omega,fun b hb _=>hsame b hb,
  fun b p hb _ hp=>by
   rcases hp with hp|hp
   ·exact hp
   ·omega,(fun _ _ _ _ h _=>False.elim h),hos,htp,hout⟩
 have hI:∀p,c'.I c.w.heap.size p ↔ J p:=fun p=>⟨fun hp=>by
  rcases hp with hp|hp
  ·have:=h.sto.bd _ _ hp;omega
  ·exact hp.2,fun hp=>.inr ⟨rfl,hp⟩⟩
 obtain ⟨O,hO,hrep⟩:=hr c' rfl hext hI
 have hmove:=h.move (c':=c') hext (fun _ hf=>hf.elim) rfl (fun b p hp=>by
  show b<w'.heap.size
  rcases hp with hp|hp
  ·have:=h.sto.bd b p hp;omega
  ·omega)
 have hnot:∀k,c.w.heap.size∉o k:=fun k hk=>by have:=(h.own k _ hk).1;omega
 refine ⟨c',upd o (.arg xs.length) O,rfl,hmove.len,hmove.alen,fun t ht=>?_,hmove.al,⟨hmove.sto.n,fun id hid=>?_,hmove.sto.bd⟩,fun i hi=>?_,by simp [hmove.flyl],?_,hmove.ext,fun k g hg=>?_,hmove.df⟩
 ·rw [upd_other _ _ (by simp)];exact hmove.env t ht
 ·rw [upd_other _ _ (by simp)];exact hmove.sto.r id hid
 ·by_cases e:i=xs.length
  ·subst e;rw [upd_same,←hmove.flyl];simpa [List.getD_eq_getElem?_getD,hmove.flyl] using hrep
  ·have hi':i<xs.length:=by simp at hi;omega
   rw [upd_other _ _ (by simp [e])]
   have:=hmove.fly i hi'
   rwa [getD_app_lt _ _ _ _ hi',getD_app_lt _ _ _ _ (by rw [hmove.flyl];exact hi')]
 ·refine ⟨fun k=>?_,fun k k' g hne hg=>?_⟩
  ·unfold upd;split
   ·rcases hO with rfl|rfl<;>simp
   ·exact h.sep.nd k
  ·unfold upd at hg ⊢
   split at hg
   ·rename_i hk
    split
    ·rename_i hk';exact absurd (hk.trans hk'.symm) hne
    ·rcases hO with rfl|rfl
     ·simp at hg
     ·simp at hg;subst hg;exact hnot k'
   ·split
    ·rcases hO with rfl|rfl
     ·simp
     ·intro hm;simp at hm;subst hm;exact hnot k hg
    ·exact h.sep.dj k k' g hne hg
 ·unfold upd at hg
  split at hg
  ·rcases hO with rfl|rfl
   ·simp at hg
   ·simp at hg;subst hg;exact ⟨by show _<w'.heap.size;omega,.inr h.ext.size⟩
  ·exact hmove.own k g hg
theorem fillS {c:Cx} (sz:Nat):∀(ps:List (Nat×LV×Value)) (k:Nat) (cells:Array Value) (done:List LV),done.length=k→(∀j p,ps[j]? = some p→p.1=k+j)→(∀p,p∈ps→Rep c p.2.1 p.2.2 []∧(cellsOf p.2.1).length=sz∧(cellsOf p.2.1).all one=true) →
  (k+ps.length)*sz≤cells.size→(∀i,i<cells.size→(cells.getD i undef).oneCell'=true)→(∀p,p<k*sz→Rep c (leaf (done.getD (p / sz) .any) (p % sz)) (cells.getD p undef) []) →
  ∃cells',Instr.fill (fun i=>some (i*sz,sz)) cells (ps.map fun p=>(p.1,p.2.2))=some cells'∧cells'.size=cells.size∧(∀i,i<cells'.size→(cells'.getD i undef).oneCell'=true) ∧
   ∀p,p<(k+ps.length)*sz→Rep c (leaf ((done++ps.map (·.2.1)).getD (p / sz) .any) (p % sz)) (cells'.getD p undef) []
 |[],k,cells,done,hk,hi,hp,hb,ho,hr=>⟨cells,rfl,rfl,ho,fun p h=>by simpa using hr p (by simpa using h)⟩
 | (i,x,v)::ps,k,cells,done,hk,hi,hp,hb,ho,hr=>by
  have hi0:i=k:=by simpa using hi 0 (i,x,v) rfl
  subst hi0
  have hx:Rep c x v []:=(hp (i,x,v) (by simp)).1
  have hxl:(cellsOf x).length=sz:=(hp (i,x,v) (by simp)).2.1
  have hx1:(cellsOf x).all one=true:=(hp (i,x,v) (by simp)).2.2
  obtain ⟨hus,hur,hu1⟩:=rep_cells hx hx1
  simp only [List.length_cons] at hb
  have hle:i*sz+sz≤cells.size:=by
   refine Nat.le_trans ?_ hb
   rw [←Nat.succ_mul];exact Nat.mul_le_mul_right _ (by omega)
  generalize hc1:v.cells.zipIdx.foldl (fun cs (p:Value×Nat)=>cs.setIfInBounds (i*sz+p.2) p.1) cells=cells1
  have e:cells1=(v.cells.toList.zipIdx 0).foldl (fun cs (p:Value×Nat)=>cs.setIfInBounds (i*sz+p.2) p.1) cells:=by
   rw [←hc1,←Array.foldl_toList];simp
  have hg:∀j,cells1.getD j undef=if i*sz≤j∧j<i*sz+sz then v.cells.getD (j-i*sz) undef else cells.getD j undef:=fun j=>by
   rw [e,foldl_get _ _ 0 _ _ (by simp;omega)]
   simp only [Nat.add_zero,Array.length_toList,hus,hxl]
   congr 1
   simp [List.getD_eq_getElem?_getD,Array.getD_eq_getD_getElem?]
  have hsz1:cells1.size=cells.size:=by rw [e];exact foldl_size _ _ _
  obtain ⟨cells',h1,h2,h3,h4⟩:=fillS sz ps (i+1) cells1 (done++[x]) (by simp [hk]) (fun j p hj=>by have:=hi (j+1) p (by simpa using hj);omega) (fun p hp'=>hp p (by simp [hp'])) (by rw [hsz1];refine Nat.le_trans (Nat.le_of_eq ?_) hb;congr 1;omega)
   (fun j hj=>by
    rw [hg]
    split
    ·exact hu1 _ (by omega)
    ·exact ho j (by omega)) (fun p hp'=>by
    have hsz0:0<sz:=Nat.pos_of_ne_zero fun e=>by subst e;simp at hp'
    rw [hg,getD_app3,hk]
    by_cases h:p<i*sz
    ·rw [if_pos (Nat.div_lt_of_lt_mul (by rw [Nat.mul_comm];exact h)),if_neg (by omega)]
     exact hr p h
    ·have hp2:p<i*sz+sz:=by rw [Nat.succ_mul] at hp';omega
     obtain ⟨m,rfl⟩:∃m,p=m+i*sz:=⟨p-i*sz,by omega⟩
     have hm:m<sz:=by omega
     rw [Nat.add_mul_div_right _ _ hsz0,Nat.div_eq_of_lt hm,Nat.zero_add,if_neg (Nat.lt_irrefl _),if_pos ⟨by omega,by omega⟩,Nat.add_mul_mod_self_right,Nat.mod_eq_of_lt hm,Nat.sub_self,Nat.add_sub_cancel]
     simp only [List.getD_cons_zero]
     have:leaf x m=(cellsOf x).getD m .any:=by
      cases x with
      |agg ys=>rfl
      |_=>cases m with
       |zero=>rfl
       |succ m=>simp [cellsOf] at hxl;omega
     rw [this]
     exact hur m (by omega))
  refine ⟨cells',?_,by rw [h2,hsz1],h3,fun p hp'=>?_⟩
  ·simp only [List.map_cons,Instr.fill]
   rw [if_neg (by simp;omega),hc1]
   exact h1
  ·have:=h4 p (by simp only [List.length_cons] at hp';refine Nat.lt_of_lt_of_le hp' (Nat.le_of_eq ?_);congr 1;omega)
   simpa using this
theorem partsInOrder_get:∀(ps:List (Nat×Operand)) (n j:Nat) (p:Nat×Operand),partsInOrder n ps=true→ps[j]? = some p→p.1=n+j
 | (i,x)::ps,n,0,p,h,hj=>by
  simp only [partsInOrder,Bool.and_eq_true] at h
  simp at hj;subst hj
  exact Nat.eq_of_beq_eq_true h.1
 | (i,x)::ps,n,j+1,p,h,hj=>by
  simp only [partsInOrder,Bool.and_eq_true] at h
  have:=partsInOrder_get ps (n+1) j p h.2 (by simpa using hj)
  omega
theorem ok_buildSlice {o:Oper} {q:Q} {t e:TypeId} {len sz:Nat} {i:TypeInfo} {z:Value} {ps:Array (Nat×Operand)} (ho:o.op = .buildSlice t len ps) (hd:P.underlying t=some (.slice e)) (hi:P.info? e=some i) (hsz:i.size=sz)
  (hz:i.zero=some z) (hzs:z.cells.size=i.size) (hzo:∀p,p<z.cells.size→(z.cells.getD p undef).oneCell'=true) (h1:partsInOrder 0 ps.toList=true) (h2:ps.toList.length=len) (h3:len*sz≤16777216) (hmx:len≤9223372036854775807)
  (h4:∀p,p∈ps.toList→(cellsOf (dup (ev q.E p.2))).length=sz∧(cellsOf (dup (ev q.E p.2))).all one=true):OpOk P q o (.own e sz (ps.toList.map fun p=>dup (ev q.E p.2))) none q:=by
 refine op_val fun fr a c hr=>?_
 obtain ⟨ow,hr⟩:=hr
 subst hsz
 generalize hzero:(if len*i.size=0 then #[] else z.cells)=zc
 generalize hcells:(Array.range (len*i.size)).map (zc[· % zc.size]!)=cells
 have hcs:cells.size=len*i.size:=by subst hcells;simp
 have hco:∀p,p<cells.size→(cells.getD p undef).oneCell'=true:=fun p hp=>by
  have hp':p<len*i.size:=by omega
  have hzc:zc=z.cells:=by rw [←hzero,if_neg (by omega)]
  have hz0:0<z.cells.size:=by rw [hzs];exact Nat.pos_of_ne_zero fun e=>by rw [e] at hp';simp at hp'
  subst hzc
  have hm:=Nat.mod_lt p hz0
  have:=hzo _ hm
  subst hcells
  simpa [hp',hm,Array.getD_eq_getD_getElem?] using this
 obtain ⟨cells',f1,f2,f3,f4⟩:=fillS (c:=c) i.size (ps.toList.map fun p=>(p.1,dup (ev q.E p.2),a.eval p.2)) 0 cells [] rfl (fun j p hj=>by
   rw [List.getElem?_map] at hj
   cases hq:ps.toList[j]? with
   |none=>rw [hq] at hj;simp at hj
   |some p'=>rw [hq] at hj;simp at hj;subst hj;exact partsInOrder_get _ 0 j p' h1 hq) (fun p hp=>by
   obtain ⟨p',hp',rfl⟩:=List.mem_map.1 hp
   exact ⟨hr.evd p'.2,h4 p' hp'⟩) (by rw [hcs,List.length_map,h2,Nat.zero_add];exact Nat.le_refl _) hco (fun p hp=>by simp at hp)
 simp only [List.nil_append,List.map_map,Nat.zero_add,List.length_map,h2] at f1 f4
 have hlen:(ps.toList.map fun p=>dup (ev q.E p.2)).length=len:=by rw [List.length_map,h2]
 obtain ⟨c',o',hw,hrel⟩:=hr.fresh' (c.w.alloc (.cells cells' e)) (fun b hb=>by
   show (c.w.heap.push _)[b]? = _
   rw [Array.getElem?_push,if_neg (by omega)]) (by show (c.w.heap.push _).size=_;simp) rfl rfl rfl (fun p=>p<len*i.size) (x:=.own e i.size (ps.toList.map fun p=>dup (ev q.E p.2))) (v:=.slice (some ⟨c.w.heap.size,0,none⟩) len len)
  (fun c' hw hext hI=>⟨[c.w.heap.size],.inr rfl,by
   have:=Rep.own (c:=c') e i.size c.w.heap.size len (ps.toList.map fun p=>dup (ev q.E p.2)) cells' (by rw [hlen];exact Nat.le_refl _) hmx (by rw [hw];exact heap_alloc_new _ _) (by rw [f2,hcs]) (fun p=>by rw [hlen];exact hI p) f3 (fun p hp=>by
    rw [hlen] at hp
    exact (f4 p hp).ext hext (fun g hg=>by simp at hg))
   rw [hlen] at this
   exact this⟩)
 refine ⟨c',_,?_,⟨o',hrel⟩,fun _ _ h=>by cases h⟩
 rw [hw]
 have f1':Instr.fill (fun j=>some (j*i.size,i.size)) cells (ps.toList.map fun p=>(p.1,a.eval p.2))=some cells':=f1
 have h24:¬ (16777216<len*i.size):=by omega
 have hbs:(Instr.buildSlice t len (ps.map fun p=>(p.1,a.eval p.2))).run P c.w = .ok (.slice (some ⟨c.w.heap.size,0,none⟩) len len) (c.w.alloc (.cells cells' e)):=by
  unfold Instr.buildSlice
  simp only [Sem.run_bind,run_underlying hd,Result.andThen_ok,sizeOf,typeInfo,run_program,hi,Sem.run_pure,h24,if_false,gt_iff_lt]
  by_cases h0:len*i.size=0
  ·rw [if_pos h0] at hzero ⊢
   subst hzero
   simp only [Sem.run_bind,Sem.run_pure,Result.andThen_ok,hcells,Array.toList_map,f1']
   simp [newRow]
  ·rw [if_neg h0] at hzero ⊢
   subst hzero
   simp only [Sem.run_bind,zeroValue,typeInfo,run_program,Result.andThen_ok,hi,Sem.run_pure,hz,hcells,Array.toList_map,f1']
   simp [newRow]
 simp [execOp,ho,hbs]
end
end Go.Lm
namespace Go.Lm
section
variable {R:Type} {P:Program} {T:Nat→Option TI} {C:Nat→Hd R}
theorem flatO_mem {n:Nat} {os:Nat→List Nat} {g:Nat}:g∈flatO n os ↔ ∃i,i<n∧g∈os i:=by
 simp [flatO]
theorem flatO_nd:∀{n:Nat} {os:Nat→List Nat},(flatO n os).Nodup→(∀i,i<n→(os i).Nodup)∧∀i j g,i<n→j<n→i≠j→g∈os i→g∉os j
 |0,os,_=>⟨fun i hi=>absurd hi (by simp),fun i j g hi=>absurd hi (by simp)⟩
 |n+1,os,h=>by
  have e:flatO (n+1) os=flatO n os++os n:=by simp [flatO,List.range_succ]
  rw [e,List.nodup_append] at h
  obtain ⟨h1,h2⟩:=flatO_nd h.1
  refine ⟨fun i hi=>?_,fun i j g hi hj hne hgi hgj=>?_⟩
  ·by_cases e:i=n
   ·subst e;exact h.2.1
   ·exact h1 i (by omega)
  ·by_cases ei:i=n
   ·subst ei
    exact h.2.2 g (flatO_mem.2 ⟨j,by omega,hgj⟩) g hgi rfl
   ·by_cases ej:j=n
    ·subst ej
     exact h.2.2 g (flatO_mem.2 ⟨i,by omega,hgi⟩) g hgj rfl
    ·exact h2 i j g (by omega) (by omega) hne hgi hgj
theorem flatO_nd_mk:∀{n:Nat} {os:Nat→List Nat},(∀i,i<n→(os i).Nodup)→(∀i j g,i<n→j<n→i≠j→g∈os i→g∉os j)→(flatO n os).Nodup
 |0,os,_,_=>by simp [flatO]
 |n+1,os,h1,h2=>by
  have e:flatO (n+1) os=flatO n os++os n:=by simp [flatO,List.range_succ]
  rw [e,List.nodup_append]
  refine ⟨flatO_nd_mk (fun i hi=>h1 i (by omega)) (fun i j g hi hj=>h2 i j g (by omega) (by omega)),h1 n (by omega),fun g hg g' hg' e=>?_⟩
  subst e
  obtain ⟨i,hi,hgi⟩:=flatO_mem.1 hg
  exact h2 i n g (by omega) (by omega) (by omega) hgi hg'
theorem ok_extract_dup {o:Oper} {q:Q} {t i:Nat} {vs:List LV} (ho:o.op = .extract (.tmp t) i) (hx:ev q.E (.tmp t) = .tup vs) (hi:i<vs.length) :
  OpOk P q o (dup (vs.getD i .any)) none q :=
 op_pure fun fr a c hr=>by
  obtain ⟨O,r⟩:=hr.evr (.tmp t)
  rw [hx] at r
  generalize hv:a.eval (.tmp t)=v at r
  cases r with
  |tup _ cs os hs hrep =>
   have:i<cs.size:=by omega
   exact ⟨cs.getD i undef,by simp [execOp,ho,hv,Instr.extract,this,Array.getD_eq_getD_getElem?],(hrep i hi).dup⟩
theorem ok_extract {o:Oper} {q:Q} {t i:Nat} {vs:List LV} (ho:o.op = .extract (.tmp t) i) (hx:ev q.E (.tmp t) = .tup vs) (hi:i<vs.length) :
  OpOk P q o (vs.getD i .any) none { q with E:=q.E.set t (.tup (vs.set i (dup (vs.getD i .any)))) }:=by
 refine op_val fun fr a c hr=>?_
 obtain ⟨ow,hr⟩:=hr
 have hE:q.E.getD t .any = .tup vs:=hx
 have ht:t<q.E.length:=by
  rcases Nat.lt_or_ge t q.E.length with h1|h1
  ·exact h1
  ·rw [List.getD_eq_getElem?_getD,List.getElem?_eq_none h1] at hE;simp at hE
 have r:=hr.env t ht
 rw [hE] at r
 generalize hv:a.tmps.getD t undef=v at r
 generalize hO:ow (.env t)=O at r
 cases r with
 |tup _ cs os hs hrep =>
  have hnd:(flatO vs.length os).Nodup:=by rw [←hO];exact hr.sep.nd _
  obtain ⟨n1,n2⟩:=flatO_nd hnd
  let os':Nat→List Nat:=fun j=>if j=i then [] else os j
  have hsub:∀g,g∈flatO vs.length os'→g∈ow (.env t)∧g∉os i:=fun g hg=>by
   obtain ⟨j,hj,hgj⟩:=flatO_mem.1 hg
   by_cases e:j=i
   ·simp [os',e] at hgj
   ·simp only [os',e,if_false] at hgj
    exact ⟨by rw [hO];exact flatO_mem.2 ⟨j,hj,hgj⟩,n2 j i g hj hi e hgj⟩
  have hsubi:∀g,g∈os i→g∈ow (.env t):=fun g hg=>by rw [hO];exact flatO_mem.2 ⟨i,hi,hg⟩
  have hsup:∀k g,g∈upd (upd ow (.arg 0) (os i)) (.env t) (flatO vs.length os') k→((k = .arg 0∨k = .env t)∧g∈ow (.env t))∨(k≠.arg 0∧k≠.env t∧g∈ow k):=fun k g hg=>by
   unfold upd at hg
   split at hg
   ·rename_i hk;exact .inl ⟨.inr hk,(hsub g hg).1⟩
   ·rename_i hk
    split at hg
    ·rename_i hk';exact .inl ⟨.inl hk',hsubi g hg⟩
    ·rename_i hk';exact .inr ⟨hk',hk,hg⟩
  refine ⟨c,cs.getD i undef,?_,⟨upd (upd ow (.arg 0) (os i)) (.env t) (flatO vs.length os'),by simpa using hr.len,by simpa using hr.alen,fun t' ht'=>?_,fun t' d' p' hp'=>by simpa using hr.al t' d' p' hp',⟨hr.sto.n,fun id hid=>?_,hr.sto.bd⟩,fun j hj=>?_,rfl,⟨fun k=>?_,fun k k' g hne hg hg'=>?_⟩,hr.ext,fun k g hg=>?_,hr.df⟩,fun _ _ h=>by cases h⟩
  ·have:i<cs.size:=by omega
   have hv':a.eval (.tmp t) = .tuple cs:=hv
   simp [execOp,ho,hv',Instr.extract,this,Array.getD_eq_getD_getElem?]
  ·have ht'':t'<q.E.length:=by simpa using ht'
   by_cases e:t'=t
   ·subst e
    rw [upd_same,hv]
    have hset:(q.E.set t' (.tup (vs.set i (dup (vs.getD i .any))))).getD t' .any = .tup (vs.set i (dup (vs.getD i .any))):=by simp [List.getD_eq_getElem?_getD,ht'']
    show Rep c ((q.E.set t' _).getD t' .any) _ _
    rw [hset]
    have:=Rep.tup (c:=c) (vs.set i (dup (vs.getD i .any))) cs os' (by simp [hs]) (fun j hj=>by
     have hj':j<vs.length:=by simpa using hj
     by_cases e:j=i
     ·subst e
      have h1:(vs.set j (dup (vs.getD j .any))).getD j .any=dup (vs.getD j .any):=by simp [List.getD_eq_getElem?_getD,hj']
      rw [h1]
      simp only [os',if_true]
      exact (hrep j hj').dup
     ·have h1:(vs.set i (dup (vs.getD i .any))).getD j .any=vs.getD j .any:=by simp [List.getD_eq_getElem?_getD,List.getElem?_set_ne (Ne.symm e)]
      rw [h1]
      simp only [os',e,if_false]
      exact hrep j hj')
    simpa using this
   ·rw [upd_other _ _ (by simp [e]),upd_other _ _ (by simp)]
    have hset:(q.E.set t (.tup (vs.set i (dup (vs.getD i .any))))).getD t' .any=q.E.getD t' .any:=by simp [List.getD_eq_getElem?_getD,List.getElem?_set_ne (Ne.symm e)]
    show Rep c ((q.E.set t _).getD t' .any) _ _
    rw [hset]
    exact hr.env t' ht''
  ·rw [upd_other _ _ (by simp),upd_other _ _ (by simp)];exact hr.sto.r id hid
  ·have:j=0:=by simp at hj;exact hj
   subst this
   rw [upd_other _ _ (by simp),upd_same]
   exact hrep i hi
  ·unfold upd
   split
   ·exact flatO_nd_mk (fun j hj=>by simp only [os'];split;exact List.nodup_nil;exact n1 j hj) (fun j k g hj hk hne hgj hgk=>by
     simp only [os'] at hgj hgk
     split at hgj
     ·simp at hgj
     ·split at hgk
      ·simp at hgk
      ·exact n2 j k g hj hk hne hgj hgk)
   ·split
    ·exact n1 i hi
    ·exact hr.sep.nd k
  ·rcases hsup k g hg with ⟨h1,h2⟩|⟨h1,h1',h2⟩
   ·rcases hsup k' g hg' with ⟨h3,h4⟩|⟨h3,h3',h4⟩
    ·rcases h1 with rfl|rfl
     ·rcases h3 with rfl|rfl
      ·exact hne rfl
      ·rw [upd_other _ _ (by simp),upd_same] at hg
       rw [upd_same] at hg'
       exact (hsub g hg').2 hg
     ·rcases h3 with rfl|rfl
      ·rw [upd_other _ _ (by simp),upd_same] at hg'
       rw [upd_same] at hg
       exact (hsub g hg).2 hg'
      ·exact hne rfl
    ·exact hr.sep.dj (.env t) k' g (fun e=>h3' e.symm) h2 h4
   ·rcases hsup k' g hg' with ⟨h3,h4⟩|⟨h3,h3',h4⟩
    ·exact hr.sep.dj k (.env t) g h1' h2 h4
    ·exact hr.sep.dj k k' g hne h2 h4
  ·rcases hsup k g hg with ⟨h1,h2⟩|⟨h1,h1',h2⟩
   ·exact hr.own _ g h2
   ·exact hr.own _ g h2
def callS (o:Ow) (m n:Nat):Ow:=fun k=>match k with
 | .arg i=>if m≤i∧i-m<n then o (.arg (i-m)) else []
 | .sto id=>o (.sto id)
 | .env _=>[]
def unsh (m:Nat):Key→Key
 | .arg i=>.arg (i-m)
 | .sto id=>.sto id
 | .env t=>.env t
theorem callS_sub (o:Ow) (m n:Nat) (k:Key) (g:Nat) (h:g∈callS o m n k):g∈o (unsh m k)∧∀t,unsh m k≠.env t:=by
 cases k with
 |arg i=>simp only [callS] at h;split at h;exact ⟨h,by simp [unsh]⟩;simp at h
 |sto id=>exact ⟨h,by simp [unsh]⟩
 |env t=>simp [callS] at h
theorem callS_dj (o:Ow) (m n:Nat) (k k':Key) (g:Nat) (h:g∈callS o m n k) (h':g∈callS o m n k') (hne:k≠k'):unsh m k≠unsh m k':=by
 cases k with
 |arg i =>
  simp only [callS] at h
  split at h
  ·rename_i h1
   cases k' with
   |arg j =>
    simp only [callS] at h'
    split at h'
    ·rename_i h2
     simp only [unsh]
     intro e
     injection e with e
     exact hne (by rw [show i=j by omega])
    ·simp at h'
   |sto id=>simp [unsh]
   |env t=>simp [callS] at h'
  ·simp at h
 |sto id =>
  cases k' with
  |arg j=>simp [unsh]
  |sto id'=>exact hne
  |env t=>simp [callS] at h'
 |env t=>simp [callS] at h
theorem ok_call {o:Oper} {q:Q} {x:Operand} {as:Array Operand} {ts:Array TypeId} {f:FuncId} {cs:List LV} {S':List LV} {r:LV} (ho:o.op = .call { callee:=.value x,args:=as,argTypes:=ts })
  (hx:ev q.E x = .fn f cs) (hen:Enters P (funV f)) (hc:LCalls P (funV f) (argsV f (takes as.toList q).1 cs) q.S r S'):OpOk P q o r none { (takes as.toList q).2 with S:=S' }:=by
 intro fr a c hr next Qp hn
 obtain ⟨ow,hr⟩:=hr
 obtain ⟨Of,rf⟩:=hr.evo x
 rw [hx] at rf
 generalize hv:a.eval x=v at rf
 obtain ⟨o1,h1⟩:=hr.takes as.toList
 simp only [List.nil_append] at h1
 have hlen:(takes as.toList q).1.length=as.toList.length:=by have:=h1.flyl;simpa using this.symm
 have hS:(takes as.toList q).2.S=q.S:=by
  generalize as.toList=l
  have:∀(l:List Operand) (q:Q),(takes l q).2.S=q.S:=by
   intro l
   induction l with
   |nil=>intro q;rfl
   |cons x l ih=>intro q;simp only [takes];rw [ih];cases x<;>rfl
  exact this l q
 obtain ⟨m,g,L,V,hc,hVL,hVr,hrun⟩:∃(m:Nat) (g:FuncId) (L:List LV) (V:List Value),LCalls P g L q.S r S'∧V.length=L.length∧(∀i,i<L.length→Rep c (L.getD i .any) (V.getD i undef) (callS o1 m as.toList.length (.arg i)))∧(execOp a.eval o).run P c.w = .ok (.enter g V.toArray) c.w:=by
  cases rf with
  |fn _ _ ccs hf hcs hcap =>
   have hb:Nat.blt f fnB=true:=Nat.ble_eq_true_of_le hf
   have e1:funV f=f:=by unfold funV;rw [hb]
   have e2:argsV f (takes as.toList q).1 cs=(takes as.toList q).1++cs:=by unfold argsV;rw [hb]
   rw [e1] at hen hc
   rw [e2] at hc
   refine ⟨0,f,_,as.toList.map a.eval++ccs.toList,hc,by simp [hlen,hcs],fun i hi=>?_,?_⟩
   ·by_cases h:i<as.toList.length
    ·have h':i<(takes as.toList q).1.length:=by rw [hlen];exact h
     rw [getD_app_lt _ _ _ _ h',getD_app_lt _ _ _ _ (by simpa using h)]
     simp only [callS,Nat.zero_le,Nat.sub_zero,h,true_and,if_true]
     exact h1.fly i h'
    ·have e1:((takes as.toList q).1++cs).getD i .any=cs.getD (i-as.toList.length) .any:=by
      simp only [List.getD_eq_getElem?_getD]
      rw [List.getElem?_append_right (by rw [hlen];omega),hlen]
     have e2:(as.toList.map a.eval++ccs.toList).getD i undef=ccs.getD (i-as.toList.length) undef:=by
      simp only [List.getD_eq_getElem?_getD,Array.getD_eq_getD_getElem?]
      rw [List.getElem?_append_right (by simp;simpa using h)]
      simp
     rw [e1,e2]
     simp only [callS,Nat.zero_le,Nat.sub_zero,h,true_and,if_false]
     refine hcap _ ?_
     rw [List.length_append,hlen] at hi;omega
   ·have hvs:(as.toList.map a.eval++ccs.toList).toArray=as.map a.eval++ccs:=by
     apply Array.ext';simp
    rw [hvs]
    simp [execOp,ho,resolve,hv,Deferred.ofValue,invoke]
    exact hen _ _
  |fnm f0 _ hg _ ccs hcs hcap =>
   have hg':@Eq Nat f (f0+fnB):=hg
   have hb:Nat.blt f fnB=false:=by
    cases hq:Nat.blt f fnB with
    |false=>rfl
    |true=>have:=blt_lt hq;omega
   have e1:funV f=f0:=by
    unfold funV
    rw [hb]
    show @Eq Nat (f-fnB) f0
    omega
   have e2:argsV f (takes as.toList q).1 cs=cs++(takes as.toList q).1:=by unfold argsV;rw [hb]
   rw [e1] at hen hc
   rw [e2] at hc
   have hcl:ccs.toList.length=cs.length:=by simpa using hcs
   refine ⟨cs.length,f0,_,ccs.toList++as.toList.map a.eval,hc,by simp [hlen,hcs],fun i hi=>?_,?_⟩
   ·by_cases h:i<cs.length
    ·rw [getD_app_lt _ _ _ _ h,getD_app_lt _ _ _ _ (by rw [hcl];exact h)]
     simp only [callS,show ¬ cs.length≤i by omega,false_and,if_false]
     have e2:ccs.toList.getD i undef=ccs.getD i undef:=by simp [List.getD_eq_getElem?_getD,Array.getD_eq_getD_getElem?]
     rw [e2]
     exact hcap i h
    ·have hi2:i-cs.length<(takes as.toList q).1.length:=by rw [List.length_append] at hi;omega
     have e1:(cs++(takes as.toList q).1).getD i .any=(takes as.toList q).1.getD (i-cs.length) .any:=by
      simp only [List.getD_eq_getElem?_getD]
      rw [List.getElem?_append_right (by omega)]
     have e2:(ccs.toList++as.toList.map a.eval).getD i undef=(as.toList.map a.eval).getD (i-cs.length) undef:=by
      simp only [List.getD_eq_getElem?_getD]
      rw [List.getElem?_append_right (by rw [hcl];omega),hcl]
     rw [e1,e2]
     have h3:cs.length≤i∧i-cs.length<as.toList.length:=⟨by omega,by rw [←hlen];exact hi2⟩
     simp only [callS]
     rw [if_pos h3]
     exact h1.fly _ hi2
   ·have hvs:(ccs.toList++as.toList.map a.eval).toArray=ccs++as.map a.eval:=by
     apply Array.ext';simp
    rw [hvs]
    simp [execOp,ho,resolve,hv,Deferred.ofValue,invoke]
    exact hen _ _
 have hcall:=hc c V (callS o1 m as.toList.length) hVL hVr ⟨by rw [←hS];exact h1.sto.n,fun id hid=>by rw [←hS];exact h1.sto.r id (by rw [hS];exact hid),h1.sto.bd⟩
  ⟨fun k=>by
   cases k with
   |arg i=>simp only [callS];split;exact h1.sep.nd _;exact List.nodup_nil
   |sto id=>exact h1.sep.nd _
   |env t=>exact List.nodup_nil,fun k k' g hne hg hg'=>h1.sep.dj _ _ g (callS_dj _ _ _ _ _ _ hg hg' hne) (callS_sub _ _ _ _ _ hg).1 (callS_sub _ _ _ _ _ hg').1⟩ (fun k g hg=>(h1.own _ g (callS_sub _ _ _ _ _ hg).1).1)
 unfold Oper.wp
 rw [hrun]
 refine Calls.mono hcall ?_
 rintro e w' ⟨c',v',o',rfl,rfl,hext,hrep,hsto,hsep,hown,henv⟩
 refine hn c' v' ?_ (fun _ _ h=>by cases h)
 have hM:∀t g,g∈o1 (.env t)→¬ ∃k,g∈callS o1 m as.toList.length k:=fun t g hg ⟨k,hk⟩=>by
  obtain ⟨hk1,hk2⟩:=callS_sub _ _ _ _ _ hk
  exact h1.sep.dj (.env t) _ g (fun e=>hk2 t e.symm) hg hk1
 let o2:Ow:=fun k=>match k with
  | .env t=>o1 (.env t)
  | .sto id=>o' (.sto id)
  | .arg i=>if i=0 then o' (.arg 0) else []
 have h2:∀k g,g∈o2 k→(∃t,k = .env t∧g∈o1 (.env t))∨((∀t,k≠.env t)∧g∈o' k):=fun k g hg=>by
  cases k with
  |env t=>exact .inl ⟨t,rfl,hg⟩
  |sto id=>exact .inr ⟨by simp,hg⟩
  |arg i =>
   simp only [o2] at hg
   split at hg
   ·rename_i e;subst e;exact .inr ⟨by simp,hg⟩
   ·simp at hg
 have hnew:∀t g k,g∈o1 (.env t)→g∈o' k→False:=fun t g k hg hg'=>by
  rcases (hown k g hg').2 with h|h
  ·exact hM t g hg h
  ·have:=(h1.own (.env t) g hg).1;omega
 refine ⟨o2,h1.len,h1.alen,fun t ht=>(h1.env t ht).ext hext (fun g hg=>hM t g hg),h1.al,⟨hsto.n,fun id hid=>hsto.r id hid,hsto.bd⟩,fun i hi=>?_,rfl,⟨fun k=>?_,fun k k' g hne hg hg'=>?_⟩,?_,fun k g hg=>?_,h1.df⟩
 ·have:i=0:=by simp at hi;exact hi
  subst this;exact hrep
 ·cases k with
  |env t=>exact h1.sep.nd _
  |sto id=>exact hsep.nd _
  |arg i=>simp only [o2];split;exact hsep.nd _;exact List.nodup_nil
 ·rcases h2 k g hg with ⟨t,rfl,h3⟩|⟨h3,h3'⟩
  ·rcases h2 k' g hg' with ⟨t',rfl,h4⟩|⟨h4,h4'⟩
   ·exact h1.sep.dj _ _ g hne h3 h4
   ·exact hnew t g k' h3 h4'
  ·rcases h2 k' g hg' with ⟨t',rfl,h4⟩|⟨h4,h4'⟩
   ·exact hnew t' g k h4 h3'
   ·exact hsep.dj k k' g hne h3' h4'
 ·refine h1.ext.trans hext (fun b hb ⟨k,hk⟩=>?_)
  rcases (h1.own _ b (callS_sub _ _ _ _ _ hk).1).2 with h|h
  ·exact h
  ·omega
 ·rcases h2 k g hg with ⟨t,rfl,h3⟩|⟨h3,h3'⟩
  ·exact ⟨Nat.lt_of_lt_of_le (h1.own _ g h3).1 hext.size,(h1.own _ g h3).2⟩
  ·refine ⟨(hown k g h3').1,?_⟩
   rcases (hown k g h3').2 with ⟨k',hk'⟩|h
   ·exact (h1.own _ g (callS_sub _ _ _ _ _ hk').1).2
   ·exact .inr (Nat.le_trans h1.ext.size h)
end
end Go.Lm
namespace Go.Lm
open Go.MapKept
section
variable {P:Program}
theorem keyOk_isKey {kd:KD} {x:LV} {v:Value} {d:TypeDesc} (hk:keyOk kd x=true) (hv:rigid x=some v) (hd:kd=kdOf d):IsKey d v:=by
 subst hd
 cases d<;>cases x<;>simp only [kdOf,keyOk] at hk<;>try (cases hk;done)
 all_goals
  simp only [rigid,Option.some.injEq] at hv
  subst hv
  first|exact trivial|exact ikN_inj hk
theorem keyEq_iff {kd:KD} {x y:LV} {v u:Value} (hx:keyOk kd x=true) (hy:keyOk kd y=true) (hv:rigid x=some v) (hu:rigid y=some u):keyEq x y=true ↔ v=u:=by
 cases kd<;>cases x<;>simp only [keyOk] at hx<;>try (cases hx;done)
 all_goals cases y<;>simp only [keyOk] at hy<;>try (cases hy;done)
 all_goals
  simp only [rigid,Option.some.injEq] at hv hu
  subst hv hu
 ·have e1:=ikN_inj hx
  have e2:=ikN_inj hy
  subst e1 e2
  simp [keyEq]
 ·simp [keyEq]
 ·simp [keyEq]
theorem mapGet_find {kd:KD} {x:LV} {v:Value} {d:TypeDesc} (hx:keyOk kd x=true) (hv:rigid x=some v) (hd:kd=kdOf d):∀(kvs:List (LV×LV)) (es:List MapEntry) (i0:Nat),es.length=kvs.length →
  (∀i,i<kvs.length→rigid (kvs.getD i (.any,.any)).1=some (es.getD i ⟨undef,undef,0⟩).key∧keyOk kd (kvs.getD i (.any,.any)).1=true) →
  (mapGet kvs x=none∧Instr.findNow d v es i0=some none∧(∀e,e∈es→e.key≠v)∧∀y,mapPut kvs x y=kvs++[(x,y)]) ∨
   ∃j,j<kvs.length∧Instr.findNow d v es i0=some (some (i0+j,(es.getD j ⟨undef,undef,0⟩).val))∧mapGet kvs x=some (kvs.getD j (.any,.any)).2∧(es.getD j ⟨undef,undef,0⟩).key=v ∧
    ∀y,mapPut kvs x y=kvs.set j ((kvs.getD j (.any,.any)).1,y)
 |[],[],i0,_,_=>.inl ⟨rfl,rfl,by simp,fun _=>rfl⟩
 |[],_::_,_,h,_=>by simp at h
 |_::_,[],_,h,_=>by simp at h
 | (k,w)::kvs,e::es,i0,hl,hk=>by
  obtain ⟨h1,h2⟩:=hk 0 (by simp)
  simp only [List.getD_cons_zero] at h1 h2
  have ih:=mapGet_find hx hv hd kvs es (i0+1) (by simpa using hl) (fun i hi=>by have:=hk (i+1) (by simpa using hi);simpa using this)
  obtain ⟨r,hr,hiff⟩:=sameNow_of_keys (keyOk_isKey hx hv hd) (keyOk_isKey h2 h1 hd)
  have hke:=keyEq_iff h2 hx h1 hv
  cases r with
  |true =>
   have he:v=e.key:=hiff.1 rfl
   have:keyEq k x=true:=hke.2 he.symm
   exact .inr ⟨0,by simp,by simp [Instr.findNow,hr],by simp [mapGet,this],by simpa using he.symm,fun y=>by simp [mapPut,this]⟩
  |false =>
   have hne:¬ v=e.key:=fun h=>by have:=hiff.2 h;cases this
   have:keyEq k x=false:=by
    cases hq:keyEq k x
    ·rfl
    ·exact absurd (hke.1 hq).symm hne
   rcases ih with ⟨g1,g2,g3,g4⟩|⟨j,hj,g1,g2,g3,g4⟩
   ·refine .inl ⟨by simp [mapGet,this,g1],by simp [Instr.findNow,hr,g2],fun e' he'=>?_,fun y=>by simp [mapPut,this,g4]⟩
    rcases List.mem_cons.1 he' with rfl|h
    ·exact fun h=>hne h.symm
    ·exact g3 e' h
   ·exact .inr ⟨j+1,by simpa using hj,by simp [Instr.findNow,hr,g1];omega,by simpa [mapGet,this] using g2,by simpa using g3,fun y=>by simp [mapPut,this,g4]⟩
theorem tiOf_zv {t:TypeId} {ti:TI} (h:tiOf P t=some ti):∃i z,P.info? t=some i∧i.zero=some z∧ti.zv=ev [] (.const z):=by
 unfold tiOf at h
 split at h
 ·rename_i i d hi hd
  split at h
  ·rename_i z hz hl
   have hz':∃z',i.zero=some z':=by
    unfold zeroOk at hz
    split at hz
    ·rename_i z' hz';exact ⟨z',hz'⟩
    ·cases hz
   obtain ⟨z',hz'⟩:=hz'
   have hv:zvOf i=ev [] (.const z'):=by unfold zvOf;rw [hz']
   refine ⟨i,z',hi,hz',?_⟩
   split at h
   ·split at h
    ·cases h;exact hv
    ·cases h
   ·split at h
    ·cases h;exact hv
    ·cases h
   ·cases h;exact hv
   ·cases h;exact hv
   ·cases h;exact hv
  ·cases h
 ·cases h
theorem tiOf_map {t:TypeId} {ti:TI} (h:tiOf P t=some ti) (hk:ti.kd = .map):P.underlying t=some (.map ti.key ti.el):=by
 unfold tiOf at h
 split at h
 ·rename_i i d hi hd
  split at h
  ·split at h
   ·split at h
    ·cases h;cases hk
    ·cases h
   ·split at h
    ·cases h;cases hk
    ·cases h
   ·cases h;cases hk
   ·cases h;exact hd
   ·rename_i h1 h2 h3 h4
    cases h
    exfalso
    cases d<;>simp [kdOf] at hk<;>simp_all
  ·cases h
 ·cases h
theorem rep_zv (c:Cx) (z:Value):Rep c (ev [] (.const z)) z []:=by
 rw [ev_const];exact rep_const c z
theorem mp_rep {fr:Fr} {q:Q} {a:Act} {c:Cx} (hr:Rel fr q a c) {m:Operand} {id:Nat} {kd:KD} {kvs:List (LV×LV)} (hm:ev q.E m = .map id) (hS:q.S.getD id .any = .mp kd kvs) :
  ∃(g:Nat) (es:Array MapEntry) (clock:Nat) (ks:List (LV×LV)),a.eval m = .map (some g)∧g=c.ι id∧c.w.heap[g]? = some (.map es clock)∧MapKept.Stamped es clock∧es.size=ks.length ∧
   (∀i,i<ks.length→rigid (ks.getD i (.any,.any)).1=some (es.getD i ⟨undef,undef,0⟩).key∧keyOk kd (ks.getD i (.any,.any)).1=true)∧(∀p,¬ c.I g p) ∧
   (∀i,i<ks.length→Rep c (ks.getD i (.any,.any)).2 (es.getD i ⟨undef,undef,0⟩).val [])∧ks.Perm kvs:=by
 obtain ⟨ow,hr⟩:=hr
 obtain ⟨O,r⟩:=hr.evo m
 rw [hm] at r
 generalize hv:a.eval m=v at r
 cases r with
 |map _ hid =>
  have hlt:id<q.S.length:=by
   rcases Nat.lt_or_ge id q.S.length with h|h
   ·exact h
   ·rw [List.getD_eq_getElem?_getD,List.getElem?_eq_none h] at hS;cases hS
  have h:=hr.sto.r id hlt
  rw [hS] at h
  simp only [oval] at h
  generalize hg:c.ι id=g at h
  generalize hO:ow (.sto id)=O' at h
  cases h with
  |mp _ _ ks g es clock hp hh hst hs hk hI hr=>exact ⟨g,es,clock,ks,rfl,rfl,hh,hst,hs,hk,hI,hr,hp⟩
theorem keys_apart {kd:KD} {ks:List (LV×LV)} {es:Array MapEntry} {clock:Nat} (hst:MapKept.Stamped es clock) (hs:es.size=ks.length) (hk:∀i,i<ks.length→rigid (ks.getD i (.any,.any)).1=some (es.getD i ⟨undef,undef,0⟩).key∧keyOk kd (ks.getD i (.any,.any)).1=true) :
  ks.Pairwise fun x y=>keyEq x.1 y.1=false:=by
 rw [List.pairwise_iff_getElem]
 intro i j hi hj hij
 have g:∀i (h:i<ks.length),ks.getD i (.any,.any)=ks[i]:=fun i h=>by simp [List.getD_eq_getElem?_getD,h]
 obtain ⟨a1,a2⟩:=hk i hi
 obtain ⟨b1,b2⟩:=hk j hj
 rw [g i hi] at a1 a2
 rw [g j hj] at b1 b2
 cases hq:keyEq ks[i].1 ks[j].1 with
 |false=>rfl
 |true =>
  have h3:=(keyEq_iff a2 b2 a1 b1).1 hq
  have hn:=hst.2.2
  have h4:=List.pairwise_iff_getElem.1 hn i j (by simp [hs,hi]) (by simp [hs,hj]) hij
  simp only [List.getElem_map,Array.getElem_toList] at h4
  simp only [Array.getD_eq_getD_getElem?,Array.getElem?_eq_getElem (show i<es.size by omega),Array.getElem?_eq_getElem (show j<es.size by omega),Option.getD_some] at h3
  exact absurd h3 h4
theorem keyEq_self {x y:LV} (h:keyEq x y=true):keyEq y y=true:=by
 unfold keyEq at h
 split at h
 ·simp [keyEq]
 ·simp [keyEq]
 ·simp [keyEq]
 ·cases h
theorem keyEq_trans' {x y z:LV} (h1:keyEq x z=true) (h2:keyEq y z=true):keyEq x y=true:=by
 unfold keyEq at h1
 split at h1
 ·cases y<;>simp only [keyEq] at h2 ⊢<;>simp_all
 ·cases y<;>simp only [keyEq] at h2 ⊢<;>simp_all
 ·cases y<;>simp only [keyEq] at h2 ⊢<;>simp_all
 ·cases h1
theorem keyEq_symm (x y:LV):keyEq x y=keyEq y x:=by
 rw [Bool.eq_iff_iff]
 exact ⟨fun h=>keyEq_trans' (keyEq_self h) h,fun h=>keyEq_trans' (keyEq_self h) h⟩
theorem mapGet_of {k:LV}:∀{ks:List (LV×LV)},ks.Pairwise (fun x y=>keyEq x.1 y.1=false)→∀{z:LV×LV},z∈ks→keyEq z.1 k=true→(∀x∈ks,keyEq x.1 k=true→keyEq x.1 z.1=true)→mapGet ks k=some z.2
 |[],_,z,hz,_,_=>by simp at hz
 |x::ks,hp,z,hz,hk,ha=>by
  obtain ⟨h1,h2⟩:=List.pairwise_cons.1 hp
  rcases List.mem_cons.1 hz with rfl|hz
  ·simp [mapGet,hk]
  ·cases hx:keyEq x.1 k with
   |true =>
    have:=ha x (by simp) hx
    rw [h1 z hz] at this;cases this
   |false =>
    simp only [mapGet,hx]
    exact mapGet_of h2 hz hk fun y hy=>ha y (by simp [hy])
theorem mapGet_none_iff {k:LV}:∀{ks:List (LV×LV)},mapGet ks k=none ↔ ∀x∈ks,keyEq x.1 k=false
 |[]=>by simp [mapGet]
 |x::ks=>by
  have ih:=mapGet_none_iff (k:=k) (ks:=ks)
  cases hx:keyEq x.1 k with
  |true=>simp [mapGet,hx]
  |false=>simp [mapGet,hx,ih]
theorem mapGet_perm {ks kvs:List (LV×LV)} (hp:ks.Perm kvs) (hn:ks.Pairwise fun x y=>keyEq x.1 y.1=false) (k:LV):mapGet ks k=mapGet kvs k:=by
 have hn':kvs.Pairwise fun x y=>keyEq x.1 y.1=false:=(hp.pairwise_iff (fun {x y} h=>by rw [keyEq_symm];exact h)).1 hn
 cases h:mapGet ks k with
 |none =>
  have h1:=mapGet_none_iff.1 h
  exact (mapGet_none_iff.2 fun x hx=>h1 x (hp.mem_iff.2 hx)).symm
 |some v =>
  have:∃z∈ks,keyEq z.1 k=true:=by
   refine Classical.byContradiction fun hno=>?_
   have:mapGet ks k=none:=mapGet_none_iff.2 fun x hx=>by
    cases hq:keyEq x.1 k with
    |false=>rfl
    |true=>exact absurd ⟨x,hx,hq⟩ hno
   rw [this] at h;cases h
  obtain ⟨z,hz,hzk⟩:=this
  rw [←h,mapGet_of hn hz hzk fun x _ h=>keyEq_trans' h hzk,mapGet_of hn' (hp.mem_iff.1 hz) hzk fun x _ h=>keyEq_trans' h hzk]
theorem mapPut_new {k y:LV}:∀{ks:List (LV×LV)},mapGet ks k=none→mapPut ks k y=ks++[(k,y)]
 |[],_=>rfl
 |x::ks,h=>by
  have h1:=mapGet_none_iff.1 h
  have hx:=h1 x (by simp)
  simp only [mapPut,hx]
  rw [mapPut_new (mapGet_none_iff.2 fun z hz=>h1 z (by simp [hz]))]
  rfl
theorem mapPut_map {k y:LV}:∀{ks:List (LV×LV)},ks.Pairwise (fun x y=>keyEq x.1 y.1=false)→mapGet ks k≠none→mapPut ks k y=ks.map fun z=>cond (keyEq z.1 k) (z.1,y) z
 |[],_,h=>absurd rfl h
 |x::ks,hp,h=>by
  obtain ⟨h1,h2⟩:=List.pairwise_cons.1 hp
  cases hx:keyEq x.1 k with
  |true =>
   simp only [mapPut,hx,List.map_cons]
   congr 1
   have:∀z∈ks,keyEq z.1 k=false:=fun z hz=>by
    cases hq:keyEq z.1 k with
    |false=>rfl
    |true =>
     have:=keyEq_trans' hx hq
     rw [h1 z hz] at this;cases this
   have e:(ks.map fun z=>cond (keyEq z.1 k) (z.1,y) z)=ks.map id:=List.map_congr_left fun z hz=>by rw [this z hz];rfl
   rw [e,List.map_id]
  |false =>
   simp only [mapPut,hx,List.map_cons]
   rw [mapPut_map h2 (fun hc=>h (by simp [mapGet,hx,hc]))];rfl
theorem mapPut_perm {ks kvs:List (LV×LV)} (hp:ks.Perm kvs) (hn:ks.Pairwise fun x y=>keyEq x.1 y.1=false) (k y:LV):(mapPut ks k y).Perm (mapPut kvs k y):=by
 have hn':kvs.Pairwise fun x y=>keyEq x.1 y.1=false:=(hp.pairwise_iff (fun {x y} h=>by rw [keyEq_symm];exact h)).1 hn
 have hg:=mapGet_perm hp hn k
 cases h:mapGet ks k with
 |none =>
  rw [mapPut_new h,mapPut_new (by rw [←hg];exact h)]
  exact hp.append_right _
 |some v =>
  rw [mapPut_map hn (by rw [h];simp),mapPut_map hn' (by rw [←hg,h];simp)]
  exact hp.map _
theorem rep_pair {c:Cx} {x:LV} {v:Value} (h:Rep c x v []) (b:Bool):Rep c (.tup [x,.bool b]) (.tuple #[v,.bool b]) []:=by
 have:=Rep.tup (c:=c) [x,.bool b] #[v,.bool b] (fun _=>[]) rfl (fun i hi=>by
  match i,hi with
  |0,_=>simpa using h
  |1,_=>simpa using Rep.bool b)
 rwa [flatO_nil] at this
theorem ok_lookup {o:Oper} {q:Q} {t:TypeId} {ti ki ei:TI} {m k:Operand} {ok:Bool} {id:Nat} {kd:KD} {kvs:List (LV×LV)} {kv:Value} (ho:o.op = .lookup t m k ok) (ht:tiOf P t=some ti) (hk:ti.kd = .map)
  (hki:tiOf P ti.key=some ki) (hei:tiOf P ti.el=some ei) (hm:ev q.E m = .map id) (hS:q.S.getD id .any = .mp kd kvs) (hkd:kd=ki.kd) (hx:keyOk kd (ev q.E k)=true) (hxv:rigid (ev q.E k)=some kv) :
  ∀(y:LV),(∀{c:Cx} {w:Value},Rep c ((mapGet kvs (ev q.E k)).getD ei.zv) w []→Rep c y w [])→OpOk P q o (lookR ok y (mapGet kvs (ev q.E k)).isSome) none q:=by
 intro y hy
 have hmt:=tiOf_map ht hk
 obtain ⟨_,d,_,hd,hkd',_⟩:=tiOf_und hki
 obtain ⟨i,z,hi,hz,hzv⟩:=tiOf_zv hei
 refine op_pure fun fr a c hr=>?_
 obtain ⟨g,es,clock,ks,e1,_,hh,hst,hs,hkk,_,hrep,hperm⟩:=mp_rep hr hm hS
 rw [←mapGet_perm hperm (keys_apart hst hs hkk)] at hy ⊢
 obtain ⟨O,hrk⟩:=hr.evr k
 have hkv:a.eval k=kv:=by
  generalize hz:ev q.E k=x at *
  cases x<;>simp only [rigid] at hxv<;>try (cases hxv;done)
  ·cases hxv;exact rep_int hrk
  ·cases hxv;exact rep_bool hrk
  ·cases hxv;exact rep_str hrk
 have hgd:∀j,(es.toList.getD j ⟨undef,undef,0⟩)=es.getD j ⟨undef,undef,0⟩:=fun j=>by simp [List.getD_eq_getElem?_getD,Array.getD_eq_getD_getElem?]
 have hfind:=mapGet_find hx hxv (hkd.trans hkd') ks es.toList 0 (by simpa using hs) (fun i hi=>by rw [hgd];exact hkk i hi)
 have hck:=MapKept.run_checkKey (P:=P) (w:=c.w) hd (keyOk_isKey hx hxv (hkd.trans hkd')) es.isEmpty 9999
 have hzr:(zeroValue ti.el).run P c.w = .ok z c.w:=by simp [zeroValue,typeInfo,hi,hz]
 rcases hfind with ⟨g1,g2,_⟩|⟨j,hj,g1,g2,_⟩
 ·have hf:=MapKept.run_findKey (P:=P) (w:=c.w) hd g2
  cases ok with
  |false =>
   refine ⟨z,?_,by simp only [lookR];exact hy (by rw [g1,Option.getD_none,hzv];exact rep_zv c z)⟩
   simp [execOp,ho,Instr.lookup,e1,hkv,run_underlying hmt,MapKept.run_getObj_map hh,hck,hf,hzr]
  |true =>
   refine ⟨.tuple #[z,.bool false],?_,?_⟩
   ·simp [execOp,ho,Instr.lookup,e1,hkv,run_underlying hmt,MapKept.run_getObj_map hh,hck,hf,hzr]
   ·simp only [lookR];rw [show (mapGet ks (ev q.E k)).isSome=false by rw [g1];rfl];exact rep_pair (hy (by rw [g1,Option.getD_none,hzv];exact rep_zv c z)) false
 ·rw [hgd,Nat.zero_add] at g1
  have hf:=MapKept.run_findKey (P:=P) (w:=c.w) hd g1
  cases ok with
  |false =>
   refine ⟨(es.getD j ⟨undef,undef,0⟩).val,?_,by simp only [lookR];exact hy (by rw [g2,Option.getD_some];exact hrep j hj)⟩
   simp [execOp,ho,Instr.lookup,e1,hkv,run_underlying hmt,MapKept.run_getObj_map hh,hck,hf]
  |true =>
   refine ⟨.tuple #[(es.getD j ⟨undef,undef,0⟩).val,.bool true],?_,?_⟩
   ·simp [execOp,ho,Instr.lookup,e1,hkv,run_underlying hmt,MapKept.run_getObj_map hh,hck,hf]
   ·simp only [lookR];rw [show (mapGet ks (ev q.E k)).isSome=true by rw [g2];rfl];exact rep_pair (hy (by rw [g2,Option.getD_some];exact hrep j hj)) true
theorem Rel.setMap {fr:Fr} {q:Q} {a:Act} {c:Cx} (hr:Rel fr q a c) {id g:Nat} {kd:KD} {kvs kvs':List (LV×LV)} {es es':Array MapEntry} {clock clock':Nat} (hid:id<q.S.length) (hg:c.ι id=g) (hS:q.S.getD id .any = .mp kd kvs) (hh:c.w.heap[g]? = some (.map es clock)) (hI:∀p,¬ c.I g p)
  (hst:MapKept.Stamped es' clock') {ks':List (LV×LV)} (hp:ks'.Perm kvs') (hs:es'.size=ks'.length)
  (hk:∀i,i<ks'.length→rigid (ks'.getD i (.any,.any)).1=some (es'.getD i ⟨undef,undef,0⟩).key∧keyOk kd (ks'.getD i (.any,.any)).1=true)
  (hv:∀i,i<ks'.length→Rep c (ks'.getD i (.any,.any)).2 (es'.getD i ⟨undef,undef,0⟩).val []) :
  Rel fr { q with S:=q.S.set id (.mp kd kvs') } a { c with w:={ c.w with heap:=c.w.heap.setIfInBounds g (.map es' clock') } }:=by
 obtain ⟨ow,hr⟩:=hr
 have hO:ow (.sto id)=[g]:=by
  have h:=hr.sto.r id hid
  rw [hS] at h
  simp only [oval,hg] at h
  generalize ow (.sto id)=O at h
  cases h;rfl
 obtain ⟨hb1,hb2⟩:=MapKept.heap_set (w:=c.w) (r:=g) (o':=.map es' clock') hh
 have hsize:(c.w.heap.setIfInBounds g (.map es' clock')).size=c.w.heap.size:=by simp
 have hext:Ext c { c with w:={ c.w with heap:=c.w.heap.setIfInBounds g (.map es' clock') } } (fun b=>b=g) :=
  ⟨Nat.le_refl _,fun _ _=>rfl,fun _ _ h=>h,fun b o hb=>World.cell?_of_block (w:=c.w) (hb2 b (fun e=>by subst e;exact hI o hb)),by show _≤(c.w.heap.setIfInBounds g _).size;omega,fun b _ hb=>hb2 b hb,fun _ _ _ _ h=>h,(fun b _ _ _ hb h=>by subst hb;rw [hh] at h;cases h),rfl,rfl,rfl⟩
 refine ⟨ow,hr.len,hr.alen,fun t ht=>(hr.env t ht).ext hext (fun b hb e=>?_),hr.al,⟨by simpa using hr.sto.n,fun id' hid'=>?_,fun b p hb=>by show b<(c.w.heap.setIfInBounds g _).size;rw [hsize];exact hr.sto.bd b p hb⟩,fun i hi=>absurd hi (by simp),rfl,hr.sep,?_,
  fun k b hb=>⟨by show b<(c.w.heap.setIfInBounds g _).size;rw [hsize];exact (hr.own k b hb).1,(hr.own k b hb).2⟩,hr.df⟩
 ·subst e
  exact hr.sep.dj (.env t) (.sto id) b (by simp) hb (by rw [hO];simp)
 ·have hid'':id'<q.S.length:=by simpa using hid'
  by_cases e:id'=id
  ·subst e
   have:(q.S.set id' (.mp kd kvs')).getD id' .any = .mp kd kvs':=by simp [List.getD_eq_getElem?_getD,hid]
   show Rep _ ((q.S.set id' _).getD id' .any) _ _
   rw [this,hO]
   simp only [oval,hg]
   exact .mp kd kvs' ks' g es' clock' hp hb1 hst hs hk hI (fun i hi=>(hv i hi).ext hext (by simp))
  ·have:(q.S.set id (.mp kd kvs')).getD id' .any=q.S.getD id' .any:=by simp [List.getD_eq_getElem?_getD,List.getElem?_set_ne (Ne.symm e)]
   show Rep _ ((q.S.set id _).getD id' .any) (oval ((q.S.set id _).getD id' .any) _) _
   rw [this]
   exact (hr.sto.r id' hid'').ext hext (fun b hb e'=>by
    subst e'
    exact hr.sep.dj (.sto id') (.sto id) b (by simpa using e) hb (by rw [hO];simp))
 ·refine hr.ext.trans hext (fun b hb hm=>?_)
  subst hm
  rcases (hr.own (.sto id) b (by rw [hO];simp)).2 with h2|h2
  ·exact h2
  ·omega
theorem sameBits_rigid {kd:KD} {x:LV} {v:Value} (hk:keyOk kd x=true) (hv:rigid x=some v) (n:Nat):Instr.sameBits (n+1) v v=true:=by
 cases x<;>simp only [rigid] at hv<;>try (cases hv;done)
 all_goals
  cases hv
  simp [Instr.sameBits,MapKept.bytes_beq]
theorem ok_mapUpdate {o:Oper} {q:Q} {t:TypeId} {ti ki:TI} {m k y:Operand} {id:Nat} {kd:KD} {kvs:List (LV×LV)} {kv:Value} (ho:o.op = .mapUpdate t m k y) (ht:tiOf P t=some ti) (hk:ti.kd = .map)
  (hki:tiOf P ti.key=some ki) (hm:ev q.E m = .map id) (hid:id<q.S.length) (hS:q.S.getD id .any = .mp kd kvs) (hkd:kd=ki.kd) (hx:keyOk kd (ev q.E k)=true) (hxv:rigid (ev q.E k)=some kv) :
  OpOk P q o .any none { q with S:=q.S.set id (.mp kd (mapPut kvs (ev q.E k) (dup (ev q.E y)))) }:=by
 have hmt:=tiOf_map ht hk
 obtain ⟨_,d,_,hd,hkd',_⟩:=tiOf_und hki
 refine op_skip fun fr a c hr=>?_
 obtain ⟨g,es,clock,ks,e1,hg,hh,hst,hs,hkk,hI,hrep,hperm⟩:=mp_rep hr hm hS
 have hpp:=mapPut_perm hperm (keys_apart hst hs hkk) (ev q.E k) (dup (ev q.E y))
 obtain ⟨O,hrk⟩:=hr.evr k
 have hkv:a.eval k=kv:=by
  generalize hz:ev q.E k=x at *
  cases x<;>simp only [rigid] at hxv<;>try (cases hxv;done)
  ·cases hxv;exact rep_int hrk
  ·cases hxv;exact rep_bool hrk
  ·cases hxv;exact rep_str hrk
 have hgd:∀j,(es.toList.getD j ⟨undef,undef,0⟩)=es.getD j ⟨undef,undef,0⟩:=fun j=>by simp [List.getD_eq_getElem?_getD,Array.getD_eq_getD_getElem?]
 have hfind:=mapGet_find hx hxv (hkd.trans hkd') ks es.toList 0 (by simpa using hs) (fun i hi=>by rw [hgd];exact hkk i hi)
 have hck:=MapKept.run_checkKey (P:=P) (w:=c.w) hd (keyOk_isKey hx hxv (hkd.trans hkd')) false 9999
 have hyr:=hr.evd y
 rcases hfind with ⟨g1,g2,g3,g4⟩|⟨j,hj,g1,g2,g3,g4⟩
 ·have hf:=MapKept.run_findKey (P:=P) (w:=c.w) hd g2
  refine ⟨_,?_,Rel.setMap (es':=es.push { key:=kv,val:=a.eval y,born:=clock }) (clock':=clock+1) (kvs':=mapPut kvs (ev q.E k) (dup (ev q.E y))) hr hid hg.symm hS hh hI (MapKept.stamped_push hst g3) hpp (by rw [g4];simp [hs]) (fun i hi=>?_) (fun i hi=>?_)⟩
  ·simp [execOp,ho,Instr.mapUpdate,e1,hkv,run_underlying hmt,MapKept.run_getObj_map hh,hck,hf,MapKept.run_setObj_map _ hh]
  ·rw [g4] at hi ⊢
   simp only [List.length_append,List.length_cons,List.length_nil] at hi
   by_cases e:i=ks.length
   ·subst e
    have h1:(ks++[(ev q.E k,dup (ev q.E y))]).getD ks.length (.any,.any)=(ev q.E k,dup (ev q.E y)):=by simp [List.getD_eq_getElem?_getD]
    have h2:(es.push { key:=kv,val:=a.eval y,born:=clock }).getD ks.length ⟨undef,undef,0⟩ = { key:=kv,val:=a.eval y,born:=clock }:=by rw [←hs];simp [Array.getD_eq_getD_getElem?]
    rw [h1,h2];exact ⟨hxv,hx⟩
   ·have hi':i<ks.length:=by omega
    have h1:(ks++[(ev q.E k,dup (ev q.E y))]).getD i (.any,.any)=ks.getD i (.any,.any):=by simp [List.getD_eq_getElem?_getD,List.getElem?_append,hi']
    have h2:(es.push { key:=kv,val:=a.eval y,born:=clock }).getD i ⟨undef,undef,0⟩=es.getD i ⟨undef,undef,0⟩:=by simp [Array.getD_eq_getD_getElem?,Array.getElem?_push,show i≠es.size by omega]
    rw [h1,h2];exact hkk i hi'
  ·rw [g4] at hi ⊢
   simp only [List.length_append,List.length_cons,List.length_nil] at hi
   by_cases e:i=ks.length
   ·subst e
    have h1:(ks++[(ev q.E k,dup (ev q.E y))]).getD ks.length (.any,.any)=(ev q.E k,dup (ev q.E y)):=by simp [List.getD_eq_getElem?_getD]
    have h2:(es.push { key:=kv,val:=a.eval y,born:=clock }).getD ks.length ⟨undef,undef,0⟩ = { key:=kv,val:=a.eval y,born:=clock }:=by rw [←hs];simp [Array.getD_eq_getD_getElem?]
    rw [h1,h2];exact hyr
   ·have hi':i<ks.length:=by omega
    have h1:(ks++[(ev q.E k,dup (ev q.E y))]).getD i (.any,.any)=ks.getD i (.any,.any):=by simp [List.getD_eq_getElem?_getD,List.getElem?_append,hi']
    have h2:(es.push { key:=kv,val:=a.eval y,born:=clock }).getD i ⟨undef,undef,0⟩=es.getD i ⟨undef,undef,0⟩:=by simp [Array.getD_eq_getD_getElem?,Array.getElem?_push,show i≠es.size by omega]
    rw [h1,h2];exact hrep i hi'
 ·rw [hgd,Nat.zero_add] at g1
  have hf:=MapKept.run_findKey (P:=P) (w:=c.w) hd g1
  have hj':j<es.size:=by omega
  have hej:es[j]? = some (es.getD j ⟨undef,undef,0⟩):=by simp [Array.getD_eq_getD_getElem?,hj']
  rw [hgd] at g3
  have hkey:(es[j]?.map (·.key)).getD kv=kv:=by rw [hej];exact g3
  have hsb:=sameBits_rigid hx hxv 9999
  have hget:∀i,(es.modify j fun e=>{ e with key:=kv,val:=a.eval y }).getD i ⟨undef,undef,0⟩=if i=j then { (es.getD j ⟨undef,undef,0⟩) with key:=kv,val:=a.eval y } else es.getD i ⟨undef,undef,0⟩:=fun i=>by
   rw [Array.getD_eq_getD_getElem?,Array.getElem?_modify]
   by_cases e:j=i
   ·subst e;rw [if_pos rfl,if_pos rfl,hej];rfl
   ·rw [if_neg e,if_neg (Ne.symm e),Array.getD_eq_getD_getElem?]
  have hgetk:∀i,(ks.set j ((ks.getD j (.any,.any)).1,dup (ev q.E y))).getD i (.any,.any)=if i=j then ((ks.getD j (.any,.any)).1,dup (ev q.E y)) else ks.getD i (.any,.any):=fun i=>by
   by_cases e:i=j
   ·subst e;rw [if_pos rfl];simp [List.getD_eq_getElem?_getD,hj]
   ·rw [if_neg e];simp only [List.getD_eq_getElem?_getD,List.getElem?_set_ne (Ne.symm e)]
  refine ⟨_,?_,Rel.setMap (es':=es.modify j fun e=>{ e with key:=kv,val:=a.eval y }) (clock':=clock) (kvs':=mapPut kvs (ev q.E k) (dup (ev q.E y))) hr hid hg.symm hS hh hI
   (MapKept.stamped_modify hst j _ (fun e _=>rfl) (fun e _ he=>by rw [hej] at he;cases he;exact g3.symm)) hpp (by rw [g4];simp [hs]) (fun i hi=>?_) (fun i hi=>?_)⟩
  ·simp [execOp,ho,Instr.mapUpdate,e1,hkv,run_underlying hmt,MapKept.run_getObj_map hh,hck,hf,MapKept.run_setObj_map _ hh,Instr.keyThatStays,hkey,hsb]
  ·rw [g4] at hi ⊢
   rw [hget,hgetk]
   split
   ·have:=hkk j hj;rw [g3] at this;exact this
   ·exact hkk i (by simpa using hi)
  ·rw [g4] at hi ⊢
   rw [hget,hgetk]
   split
   ·exact hyr
   ·exact hrep i (by simpa using hi)
theorem ok_makeMap {o:Oper} {q:Q} {t:TypeId} {kd:KD} (ho:o.op = .makeMap t none):OpOk P q o (.map q.S.length) none { q with S:=q.S++[.mp kd []] }:=by
 refine op_val fun fr a c hr=>?_
 obtain ⟨ow,hr⟩:=hr
 obtain ⟨hb1,hb2⟩:=MapKept.heap_alloc c.w (.map #[] 0)
 have hn:=hr.sto.n
 have hsize:(c.w.alloc (.map #[] 0)).heap.size=c.w.heap.size+1:=by simp
 let c':Cx:={ c with w:=c.w.alloc (.map #[] 0),n:=c.n+1,ι:=fun id=>if id=c.n then c.w.heap.size else c.ι id }
 have hext:Ext c c' (fun _=>False) :=
  ⟨Nat.le_succ _,fun id hid=>by show (if id=c.n then _ else _)=_;rw [if_neg (Nat.ne_of_lt hid)],fun _ _ h=>h,fun b o hb=>World.cell?_of_block (w:=c.w) (hb2 b (hr.sto.bd b o hb)),by show _≤(c.w.alloc _).heap.size;omega,fun b hb _=>hb2 b hb,fun _ _ _ _ h=>h,(fun _ _ _ _ h _=>False.elim h),rfl,rfl,rfl⟩
 let o':Ow:=fun k=>match k with
  | .sto id=>if id=q.S.length then [c.w.heap.size] else ow (.sto id)
  | .arg _=>[]
  |k=>ow k
 have sub:∀k g,g∈o' k→(k = .sto q.S.length∧g=c.w.heap.size)∨g∈ow k:=fun k g hg=>by
  cases k with
  |sto id =>
   simp only [o'] at hg
   split at hg
   ·rename_i e;subst e;exact .inl ⟨rfl,by simpa using hg⟩
   ·exact .inr hg
  |arg i=>simp [o'] at hg
  |env t=>exact .inr hg
 refine ⟨c',.map (some c.w.heap.size),?_,⟨o',hr.len,hr.alen,fun t ht=>(hr.env t ht).ext hext (by simp),hr.al,⟨by show c.n+1=_;simp [hn],fun id hid=>?_,fun b p hb=>?_⟩,fun i hi=>?_,rfl,⟨fun k=>?_,fun k k' g hne hg hg'=>?_⟩,hr.ext.trans hext (fun _ _ h=>h.elim),fun k g hg=>?_,hr.df⟩,fun _ _ h=>by cases h⟩
 ·have hm:(Instr.makeMap t none).run P c.w = .ok (.map (some c.w.heap.size)) (c.w.alloc (.map #[] 0)):=rfl
  simp only [execOp,ho,Option.map_none,Sem.run_bind]
  simp [hm,c']
 ·have hid':id<q.S.length+1:=by simpa using hid
  by_cases e:id=q.S.length
  ·subst e
   have h1:(q.S++[LV.mp kd []]).getD q.S.length .any = .mp kd []:=by simp [List.getD_eq_getElem?_getD]
   show Rep c' ((q.S++[LV.mp kd []]).getD q.S.length .any) (oval ((q.S++[LV.mp kd []]).getD q.S.length .any) (c'.ι q.S.length)) (o' (.sto q.S.length))
   rw [h1]
   have h2:c'.ι q.S.length=c.w.heap.size:=by show (if q.S.length=c.n then _ else _)=_;rw [if_pos hn.symm]
   have h3:o' (.sto q.S.length)=[c.w.heap.size]:=by simp [o']
   rw [h2,h3]
   exact .mp kd [] [] _ #[] 0 (List.Perm.refl _) hb1 (MapKept.stamped_empty 0) rfl (fun i hi=>by simp at hi) (fun p hp=>by have:=hr.sto.bd _ p hp;omega) (fun i hi=>by simp at hi)
  ·have hlt:id<q.S.length:=by omega
   have h1:(q.S++[LV.mp kd []]).getD id .any=q.S.getD id .any:=by simp [List.getD_eq_getElem?_getD,List.getElem?_append,hlt]
   show Rep c' ((q.S++[LV.mp kd []]).getD id .any) (oval ((q.S++[LV.mp kd []]).getD id .any) (c'.ι id)) (o' (.sto id))
   rw [h1]
   have h2:c'.ι id=c.ι id:=by show (if id=c.n then _ else _)=_;rw [if_neg (by omega)]
   have h3:o' (.sto id)=ow (.sto id):=by simp [o',e]
   rw [h2,h3]
   exact (hr.sto.r id hlt).ext hext (by simp)
 ·show b<(c.w.alloc (.map #[] 0)).heap.size
  have:=hr.sto.bd b p hb
  omega
 ·have:i=0:=by simpa using hi
  subst this
  have h2:c'.ι q.S.length=c.w.heap.size:=by show (if q.S.length=c.n then _ else _)=_;rw [if_pos hn.symm]
  have:=Rep.map (c:=c') q.S.length (by show q.S.length<c.n+1;omega)
  rw [h2] at this
  exact this
 ·cases k with
  |sto id=>simp only [o'];split<;>simp [hr.sep.nd]
  |arg i=>exact List.nodup_nil
  |env t=>exact hr.sep.nd _
 ·rcases sub k g hg with ⟨rfl,rfl⟩|h1<;>rcases sub k' _ hg' with ⟨rfl,h2⟩|h2
  ·exact absurd rfl hne
  ·have:=(hr.own _ _ h2).1;omega
  ·subst h2;have:=(hr.own _ _ h1).1;omega
  ·exact hr.sep.dj k k' g hne h1 h2
 ·show g<(c.w.alloc (.map #[] 0)).heap.size∧_
  rcases sub k g hg with ⟨rfl,rfl⟩|h1
  ·exact ⟨by omega,.inr hr.ext.size⟩
  ·exact ⟨by have:=(hr.own k g h1).1;omega,(hr.own k g h1).2⟩
end
end Go.Lm
