/-
  The abstract machine: abstract values, an abstract heap, and an evaluator of the model's code over them. No program is named here. That what it computes is what the model does is proved in the text of the name Am2.
-/
import Derived.Tactics
import Derived.Test.YteccopaonadbeaaGreatDoorProg
set_option linter.unusedVariables false
set_option linter.unusedSimpArgs false
namespace Go.AM
noncomputable section
noncomputable def PG:Program:=Go.Proofs.Tryz.prog
attribute [irreducible] PG
def veil {α:Type} (a:α):α:=Classical.choose (⟨a,rfl⟩:∃x,x=a)
theorem veil_eq {α:Type} (a:α):veil a=a:=Classical.choose_spec (⟨a,rfl⟩:∃x,x=a)
inductive D where
 |int (n:Int)
 |bool (b:Bool)
 |str (s:ByteArray)
 |list (xs:List D)
 |agg (xs:List D)
 |other
def qeqD:D→D→Bool:=veil fun a b=> @decide (a=b) (Classical.propDecidable _)
def D.toInt:D→Int | .int n=>n|_=>0
def D.toBool:D→Bool | .bool b=>b|_=>false
def D.toStr:D→ByteArray | .str s=>s|_=>ByteArray.empty
def D.toList:D→List D | .list xs=>xs|_=>[]
def D.fld (d:D) (j:Nat):D:=match d with | .agg xs=>xs.getD j .other|_=> .other
def D.get (d:D) (i:Int):D:=d.toList.getD i.toNat .other
def D.sub (d:D) (lo hi:Int):D:= .list ((d.toList.drop lo.toNat).take (hi-lo).toNat)
def D.len (d:D):Int:=d.toList.length
def D.inb (d:D) (i:Int):Bool:=decide (0≤i)&&decide (i<d.toList.length)
def rbin (op:BinOp) (k:IntKind) (a b:Int):Int:=
 match op with
 | .add=>k.wrap (a+b)
 | .sub=>k.wrap (a-b)
 | .mul=>k.wrap (a*b)
 | .quo=>k.wrap (a.tdiv b)
 | .rem=>a.tmod b
 | .and=>k.wrap (BitVec.ofInt k.bits a &&& BitVec.ofInt k.bits b).toNat
 | .or=>k.wrap (BitVec.ofInt k.bits a ||| BitVec.ofInt k.bits b).toNat
 | .xor=>k.wrap (BitVec.ofInt k.bits a ^^^ BitVec.ofInt k.bits b).toNat
 | .andNot=>k.wrap (BitVec.ofInt k.bits a &&& ~~~ BitVec.ofInt k.bits b).toNat
 | .shl=>k.wrap (a*2^(min b.toNat k.bits))
 | .shr=>a.fdiv (2^(min b.toNat k.bits))
 |_=>0
def rcmp (op:BinOp) (a b:Int):Bool:=
 match op with
 | .eql=>a==b
 | .neq=>a != b
 | .lss=>decide (a<b)
 | .leq=>decide (a≤b)
 | .gtr=>decide (b<a)
 | .geq=>decide (b≤a)
 |_=>false
def rcmpS (op:BinOp) (a b:ByteArray):Bool:=
 match op with
 | .eql=>a.toList==b.toList
 | .neq=> !(a.toList==b.toList)
 | .lss=>Op.bytesLess a.toList b.toList
 | .leq=>Op.bytesLess a.toList b.toList||a.toList==b.toList
 | .gtr=> !(Op.bytesLess a.toList b.toList||a.toList==b.toList)
 | .geq=> !(Op.bytesLess a.toList b.toList)
 |_=>false
def run1 (op:UnOp) (k:IntKind) (n:Int):Int:=
 match op with
 | .neg=>k.wrap (0-n)
 | .xor=>k.wrap (BitVec.ofInt k.bits (if k.signed then -1 else k.max) ^^^ BitVec.ofInt k.bits n).toNat
 |_=>0
def qint:D→Int:=veil D.toInt
def qbool:D→Bool:=veil D.toBool
def qstr:D→ByteArray:=veil D.toStr
def qfld:D→Nat→D:=veil D.fld
def qget:D→Int→D:=veil D.get
def qsub:D→Int→Int→D:=veil D.sub
def qlen:D→Int:=veil D.len
def qinb:D→Int→Bool:=veil D.inb
def qbin:BinOp→IntKind→Int→Int→Int:=veil rbin
def qcmp:BinOp→Int→Int→Bool:=veil rcmp
def qcmpS:BinOp→ByteArray→ByteArray→Bool:=veil rcmpS
def qun:UnOp→IntKind→Int→Int:=veil run1
def qnot:Bool→Bool:=veil Bool.not
def qwrap:IntKind→Int→Int:=veil IntKind.wrap
def qlenS:ByteArray→Int:=veil fun s=>(s.size:Int)
def qsubS:ByteArray→Int→Int→ByteArray:=veil fun s lo hi=>s.extract lo.toNat hi.toNat
def rmm (op:BinOp) (a b:Int):Int:=match op with | .lss=>if b<a then b else a|_=>if a<b then b else a
def qmm:BinOp→Int→Int→Int:=veil rmm
def qand:Bool→Bool→Bool:=veil fun a b=>a&&b
def ridxS (s:ByteArray) (i:Int):Int:=(s.toList.getD i.toNat 0).toNat
def qidxS:ByteArray→Int→Int:=veil ridxS
def rinbS (s:ByteArray) (i:Int):Bool:=decide (0≤i)&&decide (i<s.size)
def qinbS:ByteArray→Int→Bool:=veil rinbS
def qeqB:Bool→Bool→Bool:=veil fun a b=>a==b
def qiteB:Bool→Bool→Bool→Bool:=veil fun c a b=>bif c then a else b
def qiteI:Bool→Int→Int→Int:=veil fun c a b=>bif c then a else b
def qiteS:Bool→ByteArray→ByteArray→ByteArray:=veil fun c a b=>bif c then a else b
def D.app (x y:D):D:= .list (x.toList++y.toList)
def D.upd (d:D) (i:Int) (x:D):D:= .list (d.toList.set i.toNat x)
def qapp:D→D→D:=veil D.app
def qset:D→Int→D→D:=veil D.upd
def D.bytes (s:ByteArray):D:= .list (s.toList.map fun c=> .int c.toNat)
def qbytes:ByteArray→D:=veil D.bytes
def D.text (d:D):ByteArray:=d.toList.foldl (fun r x=>r.push (UInt8.ofNat x.toInt.toNat)) ByteArray.empty
def qtext:D→ByteArray:=veil D.text
def qcat:ByteArray→ByteArray→ByteArray:=veil fun a b=>a++b
def qcatOk:ByteArray→ByteArray→Bool:=veil fun a b=>decide (((a.size+b.size:Nat):Int)≤9223372036854775807)
def rmem (n:Int) (z:Nat):Bool:=decide (0≤n)&&(decide (n*z≤140737488355328)&&decide (n≤4611686018427387904))
def qmem:Int→Nat→Bool:=veil rmem
def qrep:Int→D→D:=veil fun n d=> .list (List.replicate n.toNat d)
def qrune:ByteArray→Int→Int:=veil fun s p=>((Utf8.decode s p.toNat).1:Int)
def qrw:ByteArray→Int→Int:=veil fun s p=>p+((Utf8.decode s p.toNat).2:Int)
def qiteD:Bool→D→D→D:=veil fun c a b=>bif c then a else b
inductive AV where
 |undef
 |sc (v:Value)
 |ptr (i off:Nat)
 |eptr (cs:List AV)
 |sl (i z off len:Nat)
 |esl (xs:List (List AV))
 |map (i:Nat)
 |emap (es:List (Value×AV))
 |func (f:FuncId) (first cap:List AV)
 |agg (cs:List AV)
 |tup (vs:List AV)
 |ui (k:IntKind) (n:Int)
 |ub (b:Bool)
 |us (s:ByteArray)
 |rows (T:TypeId) (d:D)
 |dat (T:TypeId) (d:D)
 |edat (T:TypeId) (d:D)
 |rowz (T:TypeId) (d:D)
 |osl (i:Nat) (T:TypeId) (m:Int)
 |oel (i:Nat) (T:TypeId) (n:Int) (off:Nat)
 |e0
 |anyI (k:IntKind)
 |nx (b:Bool) (x y:AV)
inductive Blk where
 |cells (cs:List AV)
 |map (es:List (Value×AV))
 |dat (T:TypeId) (d:D)
 |lst (T:TypeId) (d:D)
 |siter (s:ByteArray) (pos:Int) (kn:Bool)
 |miter (es:List (Value×AV)) (n:Nat)
 |mp (kT vT:TypeId) (d:D)
structure Hp where
 n:Nat
 bs:List (Option Blk)
 gl:Bool
abbrev Fr:=List AV
def GLT:List (Nat×List AV):=[(0,[.sc (.int .u8 0), .sc (.int .u8 0), .sc (.int .u8 0), .sc (.int .u8 0), .sc (.int .u8 0), .sc (.int .u8 0), .sc (.int .u8 0), .sc (.int .u8 0), .sc (.int .u8 0), .sc (.int .u8 1), .sc (.int .u8 1), .sc (.int .u8 1), .sc (.int .u8 1), .sc (.int .u8 1), .sc (.int .u8 0), .sc (.int .u8 0), .sc (.int .u8 0), .sc (.int .u8 0), .sc (.int .u8 0), .sc (.int .u8 0), .sc (.int .u8 0), .sc (.int .u8 0), .sc (.int .u8 0), .sc (.int .u8 0), .sc (.int .u8 0), .sc (.int .u8 0), .sc (.int .u8 0), .sc (.int .u8 0), .sc (.int .u8 0), .sc (.int .u8 0), .sc (.int .u8 0), .sc (.int .u8 0), .sc (.int .u8 1), .sc (.int .u8 0), .sc (.int .u8 0), .sc (.int .u8 0), .sc (.int .u8 0), .sc (.int .u8 0), .sc (.int .u8 0), .sc (.int .u8 0), .sc (.int .u8 0), .sc (.int .u8 0), .sc (.int .u8 0), .sc (.int .u8 0), .sc (.int .u8 0), .sc (.int .u8 0), .sc (.int .u8 0), .sc (.int .u8 0), .sc (.int .u8 0), .sc (.int .u8 0), .sc (.int .u8 0), .sc (.int .u8 0), .sc (.int .u8 0), .sc (.int .u8 0), .sc (.int .u8 0), .sc (.int .u8 0), .sc (.int .u8 0), .sc (.int .u8 0), .sc (.int .u8 0), .sc (.int .u8 0), .sc (.int .u8 0), .sc (.int .u8 0), .sc (.int .u8 0), .sc (.int .u8 0), .sc (.int .u8 0), .sc (.int .u8 0), .sc (.int .u8 0), .sc (.int .u8 0), .sc (.int .u8 0), .sc (.int .u8 0), .sc (.int .u8 0), .sc (.int .u8 0), .sc (.int .u8 0), .sc (.int .u8 0), .sc (.int .u8 0), .sc (.int .u8 0), .sc (.int .u8 0), .sc (.int .u8 0), .sc (.int .u8 0), .sc (.int .u8 0), .sc (.int .u8 0), .sc (.int .u8 0), .sc (.int .u8 0), .sc (.int .u8 0), .sc (.int .u8 0), .sc (.int .u8 0), .sc (.int .u8 0), .sc (.int .u8 0), .sc (.int .u8 0), .sc (.int .u8 0), .sc (.int .u8 0), .sc (.int .u8 0), .sc (.int .u8 0), .sc (.int .u8 0), .sc (.int .u8 0), .sc (.int .u8 0), .sc (.int .u8 0), .sc (.int .u8 0), .sc (.int .u8 0), .sc (.int .u8 0), .sc (.int .u8 0), .sc (.int .u8 0), .sc (.int .u8 0), .sc (.int .u8 0), .sc (.int .u8 0), .sc (.int .u8 0), .sc (.int .u8 0), .sc (.int .u8 0), .sc (.int .u8 0), .sc (.int .u8 0), .sc (.int .u8 0), .sc (.int .u8 0), .sc (.int .u8 0), .sc (.int .u8 0), .sc (.int .u8 0), .sc (.int .u8 0), .sc (.int .u8 0), .sc (.int .u8 0), .sc (.int .u8 0), .sc (.int .u8 0), .sc (.int .u8 0), .sc (.int .u8 0), .sc (.int .u8 0), .sc (.int .u8 0), .sc (.int .u8 0), .sc (.int .u8 0), .sc (.int .u8 0), .sc (.int .u8 0), .sc (.int .u8 0), .sc (.int .u8 0), .sc (.int .u8 0), .sc (.int .u8 0), .sc (.int .u8 0), .sc (.int .u8 0), .sc (.int .u8 0), .sc (.int .u8 0), .sc (.int .u8 0), .sc (.int .u8 0), .sc (.int .u8 0), .sc (.int .u8 0), .sc (.int .u8 0), .sc (.int .u8 0), .sc (.int .u8 0), .sc (.int .u8 0), .sc (.int .u8 0), .sc (.int .u8 0), .sc (.int .u8 0), .sc (.int .u8 0), .sc (.int .u8 0), .sc (.int .u8 0), .sc (.int .u8 0), .sc (.int .u8 0), .sc (.int .u8 0), .sc (.int .u8 0), .sc (.int .u8 0), .sc (.int .u8 0), .sc (.int .u8 0), .sc (.int .u8 0), .sc (.int .u8 0), .sc (.int .u8 0), .sc (.int .u8 0), .sc (.int .u8 0), .sc (.int .u8 0), .sc (.int .u8 0), .sc (.int .u8 0), .sc (.int .u8 0), .sc (.int .u8 0), .sc (.int .u8 0), .sc (.int .u8 0), .sc (.int .u8 0), .sc (.int .u8 0), .sc (.int .u8 0), .sc (.int .u8 0), .sc (.int .u8 0), .sc (.int .u8 0), .sc (.int .u8 0), .sc (.int .u8 0), .sc (.int .u8 0), .sc (.int .u8 0), .sc (.int .u8 0), .sc (.int .u8 0), .sc (.int .u8 0), .sc (.int .u8 0), .sc (.int .u8 0), .sc (.int .u8 0), .sc (.int .u8 0), .sc (.int .u8 0), .sc (.int .u8 0), .sc (.int .u8 0), .sc (.int .u8 0), .sc (.int .u8 0), .sc (.int .u8 0), .sc (.int .u8 0), .sc (.int .u8 0), .sc (.int .u8 0), .sc (.int .u8 0), .sc (.int .u8 0), .sc (.int .u8 0), .sc (.int .u8 0), .sc (.int .u8 0), .sc (.int .u8 0), .sc (.int .u8 0), .sc (.int .u8 0), .sc (.int .u8 0), .sc (.int .u8 0), .sc (.int .u8 0), .sc (.int .u8 0), .sc (.int .u8 0), .sc (.int .u8 0), .sc (.int .u8 0), .sc (.int .u8 0), .sc (.int .u8 0), .sc (.int .u8 0), .sc (.int .u8 0), .sc (.int .u8 0), .sc (.int .u8 0), .sc (.int .u8 0), .sc (.int .u8 0), .sc (.int .u8 0), .sc (.int .u8 0), .sc (.int .u8 0), .sc (.int .u8 0), .sc (.int .u8 0), .sc (.int .u8 0), .sc (.int .u8 0), .sc (.int .u8 0), .sc (.int .u8 0), .sc (.int .u8 0), .sc (.int .u8 0), .sc (.int .u8 0), .sc (.int .u8 0), .sc (.int .u8 0), .sc (.int .u8 0), .sc (.int .u8 0), .sc (.int .u8 0), .sc (.int .u8 0), .sc (.int .u8 0), .sc (.int .u8 0), .sc (.int .u8 0), .sc (.int .u8 0), .sc (.int .u8 0), .sc (.int .u8 0), .sc (.int .u8 0), .sc (.int .u8 0), .sc (.int .u8 0), .sc (.int .u8 0), .sc (.int .u8 0), .sc (.int .u8 0), .sc (.int .u8 0), .sc (.int .u8 0), .sc (.int .u8 0), .sc (.int .u8 0), .sc (.int .u8 0), .sc (.int .u8 0), .sc (.int .u8 0), .sc (.int .u8 0)]),
 (2,[.anyI .i64])]
def Hp.nil:Hp:=⟨0,[],false⟩
def Hp.fresh (H:Hp):Hp:=⟨0,[],H.gl⟩
def findG (g:Nat):List (Nat×List AV)→Option (List AV)
 | []=>none
 | (g',cs)::r=>bif Nat.beq g g' then some cs else findG g r
def Hp.glob (H:Hp) (g:Nat):Option (List AV):=bif H.gl then findG g GLT else none
def Hp.get (H:Hp) (i:Nat):Option Blk:=bif Nat.blt i H.n then(H.bs[H.n-1-i]?).join else none
def Hp.put (H:Hp) (i:Nat) (b:Option Blk):Hp:=⟨H.n,H.bs.set (H.n-1-i) b,H.gl⟩
def Hp.push (H:Hp) (b:Blk):Hp:=⟨H.n+1,some b::H.bs,H.gl⟩
def Hp.trunc (H:Hp) (L:Nat):Hp:=⟨L,H.bs.drop (H.n-L),H.gl⟩
def pureRun {α:Type} (P:Program):Sem α→Option α
 | .pure a=>some a
 | .program k=>pureRun P (k P)
 |_=>none
def mapO {α β:Type} (f:α→Option β):List α→Option (List β)
 | []=>some []
 |x::xs=>(f x).bind fun y=>(mapO f xs).bind fun ys=>some (y::ys)
def ofV:Value→AV
 | .agg cs=> .agg (cs.toList.map .sc)
 | .tuple vs=> .tup (vs.toList.map .sc)
 |v=> .sc v
def uv:AV:= .sc undef
def opd (fr:Fr):Operand→AV
 | .tmp t=>fr.getD t .undef
 | .const v=>ofV v
 | .global g=> .sc (.pointer (some ⟨g,0,none⟩))
 | .func f=> .func f [] []
def sz (P:Program) (T:TypeId):Option Nat:=(P.info? T).map (·.size)
def fieldCells (c:TypeId→D→List AV) (d:D):Nat→List Field→List AV
 |_,[]=>[]
 |j,f::fs=>c f.type (qfld d j)++fieldCells c d (j+1) fs
def arrCells (c:D→List AV) (d:D):Nat→Nat→List AV
 |_,0=>[]
 |j,m+1=>c (qfld d j)++arrCells c d (j+1) m
def cellsT:Nat→TypeId→D→List AV
 |0,_,_=>[]
 |n+1,T,d=>
  match PG.underlying T with
  |some (.int k)=>[.ui k (qint d)]
  |some .bool=>[.ub (qbool d)]
  |some .string=>[.us (qstr d)]
  |some (.slice e)=>[.rows e d]
  |some (.struct fs)=>fieldCells (cellsT n) d 0 fs.toList
  |some (.array m e)=>arrCells (cellsT n e) d 0 m
  |_=>[.undef]
def fieldsLay (P:Program) (lay:TypeId→Bool):Nat→List Field→Option Nat
 |off,[]=>some off
 |off,f::fs=>bif Nat.beq f.offset off&&lay f.type then fieldsLay P lay (off+P.cellsOf f.type) fs else none
def layOk (P:Program):Nat→TypeId→Bool
 |0,_=>false
 |n+1,T=>
  match P.underlying T with
  |some (.int _)=>Nat.beq (P.cellsOf T) 1
  |some .bool=>Nat.beq (P.cellsOf T) 1
  |some .string=>Nat.beq (P.cellsOf T) 1
  |some (.slice _)=>Nat.beq (P.cellsOf T) 1
  |some (.struct fs)=>match fieldsLay P (layOk P n) 0 fs.toList with
   |some z=>Nat.beq z (P.cellsOf T)
   |none=>false
  |some (.array m e)=>layOk P n e&&Nat.beq (m*P.cellsOf e) (P.cellsOf T)
  |_=>Nat.beq (P.cellsOf T) 1
def rowDepth:Nat:=8
def plainT (P:Program):Nat→TypeId→Bool
 |0,_=>false
 |n+1,T=>
  match P.underlying T with
  |some (.int _)=>true
  |some .bool=>true
  |some .string=>true
  |some (.slice _)=>true
  |some (.struct fs)=>fs.toList.all fun f=>plainT P n f.type
  |some (.array _ e)=>plainT P n e
  |_=>false
def one:AV→Bool
 | .undef=>false
 | .agg _=>false
 | .dat _ _=>false
 | .tup _=>false
 | .nx _ _ _=>false
 | .sc (.agg _)=>false
 | .sc (.tuple _)=>false
 |_=>true
def cellsOf:AV→Option (List AV)
 | .agg cs=>some cs
 | .dat T d=>some (cellsT rowDepth T d)
 |x=>if one x then some [x]else none
def aggB (P:Program) (T:TypeId):Option Bool:=
 match P.underlying T with
 |some (.struct _)=>some true
 |some (.array _ _)=>some true
 |some _=>some false
 |none=>none
def zeroA (P:Program) (T:TypeId):Option AV:=((P.info? T).bind (·.zero)).map ofV
def getB (H:Hp) (i:Nat):Option (List AV):=
 match H.get i with
 |some (.cells cs)=>some cs
 |some (.dat T d)=>some (cellsT rowDepth T d)
 |_=>none
def datB (H:Hp) (i:Nat):Option (TypeId×D):=
 match H.get i with
 |some (.dat T d)=>some (T,d)
 |_=>none
def datAt (H:Hp) (i off n:Nat):Option AV:=
 match datB H i with
 |some (T,d)=>bif Nat.beq off 0&&Nat.beq n (PG.cellsOf T)then some (.dat T d)else none
 |none=>none
def datP (H:Hp) (i off:Nat):Option AV:=
 match datB H i with
 |some (T,d)=>bif Nat.beq off 0 then some (.edat T d)else none
 |none=>none
def orAV (x y:Option AV):Option AV:=
 match x with
 |some v=>some v
 |none=>y
def getM (H:Hp) (i:Nat):Option (List (Value×AV)):=
 match H.get i with
 |some (.map es)=>some es
 |_=>none
def getL (H:Hp) (i:Nat):Option (TypeId×D):=
 match H.get i with
 |some (.lst T d)=>some (T,d)
 |_=>none
def isAggT (P:Program) (T:TypeId):Bool:=
 match aggB P T with
 |some true=>true
 |_=>false
def uncell (T:TypeId) (cs:List AV):AV:=
 bif isAggT PG T then .agg cs else(match cs with | [x]=>x|_=> .undef)
def avD:Nat→TypeId→AV→Option D
 |0,_,_=>none
 |n+1,T,x=>
  match PG.underlying T with
  |some (.int k)=>(match x with
   | .ui k' m=>if k=k' then some (.int m)else none
   | .sc (.int k' m)=>if k=k' then some (.int m)else none
   |_=>none)
  |some .bool=>(match x with
   | .ub b=>some (.bool b)
   | .sc (.bool b)=>some (.bool b)
   |_=>none)
  |some .string=>(match x with
   | .us s=>some (.str s)
   | .sc (.string s)=>some (.str s)
   |_=>none)
  |some (.slice e)=>(match x with
   | .rows T' d=>bif Nat.beq T' e then some d else none
   | .esl xs=>bif xs.all (fun c=>Nat.beq c.length (PG.cellsOf e))then(mapO (fun cs=>avD n e (uncell e cs)) xs).map .list else none
   | .sc (.slice none 0 0)=>some (.list [])
   |_=>none)
  |some (.struct fs)=>(match x with
   | .dat T' d=>bif Nat.beq T' T then some d else none
   | .agg cs=>bif Nat.beq cs.length (PG.cellsOf T)then(mapO (fun(f:Field)=>avD n f.type (uncell f.type ((cs.drop f.offset).take (PG.cellsOf f.type)))) fs.toList).map .agg else none
   |_=>none)
  |some (.array m e)=>(match x with
   | .dat T' d=>bif Nat.beq T' T then some d else none
   | .agg cs=>bif Nat.beq cs.length (PG.cellsOf T)then(mapO (fun j=>avD n e (uncell e ((cs.drop (j*PG.cellsOf e)).take (PG.cellsOf e)))) (List.range m)).map .agg else none
   |_=>none)
  |_=>none
def dDepth:Nat:=12
def chunks (z:Nat):Nat→List AV→List (List AV)
 |0,_=>[]
 |n+1,cs=>cs.take z::chunks z n (cs.drop z)
def arrD (e:TypeId) (s len:Nat) (cs:List AV):Option (List D):=mapO (fun c=>avD dDepth e (uncell e c)) (chunks s len cs)
def getV (H:Hp) (i:Nat) (T:TypeId):Option (TypeId×D):=
 match H.get i with
 |some (.lst T' d)=>some (T',d)
 |some (.cells cs)=>bif layOk PG rowDepth T then(arrD T (PG.cellsOf T) (cs.length/PG.cellsOf T) cs).map fun ds=>(T, .list ds)else none
 |_=>none
def elemL (H:Hp) (i:Nat) (T:TypeId) (n:Int):Option (List AV):=
 (getV H i T).bind fun q=>bif Nat.beq q.1 T then some (cellsT rowDepth T (qget q.2 n))else none
def ld1 (H:Hp):AV→Option AV
 | .oel i T n off=>(elemL H i T n).bind fun cs=>cs[off]?
 | .ptr i off=>(getB H i).bind fun cs=>cs[off]?
 | .eptr cs=>cs.head?
 | .edat T d=>(cellsT rowDepth T d).head?
 | .sc (.pointer (some ⟨g,off,none⟩))=>(H.glob g).bind fun cs=>cs[off]?
 |_=>none
def ldN (H:Hp) (n:Nat):AV→Option AV
 | .oel i T m off=>(getV H i T).bind fun q=>bif Nat.beq q.1 T then
    (bif Nat.beq off 0&&Nat.beq n (PG.cellsOf T)then some (.dat T (qget q.2 m))
     else(let cs:=cellsT rowDepth T (qget q.2 m);if off+n≤cs.length then some (.agg ((cs.drop off).take n))else none))else none
 | .ptr i off=>orAV (datAt H i off n) ((getB H i).bind fun cs=>if off+n≤cs.length then some (.agg ((cs.drop off).take n))else none)
 | .eptr cs=>if n≤cs.length then some (.agg (cs.take n))else none
 | .edat T d=>bif Nat.beq n (PG.cellsOf T)then some (.dat T d)else(let cs:=cellsT rowDepth T d;if n≤cs.length then some (.agg (cs.take n))else none)
 | .sc (.pointer (some ⟨g,off,none⟩))=>(H.glob g).bind fun cs=>if off+n≤cs.length then some (.agg ((cs.drop off).take n))else none
 |_=>none
def loadA (P:Program) (H:Hp) (T:TypeId) (x:AV):Option AV:=
 match aggB P T with
 |some true=>(sz P T).bind fun n=>ldN H n x
 |some false=>ld1 H x
 |none=>none
def setCells (cs:List AV) (off:Nat) (vs:List AV):List AV:=cs.take off++vs++cs.drop (off+vs.length)
def stN (H:Hp) (n:Nat) (x:AV) (vs:List AV):Option Hp:=
 match x with
 | .ptr i off=>(getB H i).bind fun cs=>
    if vs.length=n∧off+n≤cs.length∧vs.all one=true then some (H.put i (some (.cells (setCells cs off vs))))else none
 |_=>none
def stL (H:Hp) (n i:Nat) (T:TypeId) (m:Int) (off:Nat) (v:AV) (vs:List AV):Option Hp:=
 (getL H i).bind fun q=>bif Nat.beq q.1 T&&layOk PG rowDepth T then
  (match v with
   | .dat T' d=>bif Nat.beq off 0&&Nat.beq T' T&&Nat.beq n (PG.cellsOf T)&&vs.all one then some (H.put i (some (.lst T (qset q.2 m d))))else none
   |_=>(let cs:=cellsT rowDepth T (qget q.2 m)
     bif Nat.beq vs.length n&&Nat.ble (off+n) cs.length&&vs.all one then
      (avD dDepth T (uncell T (setCells cs off vs))).bind fun d=>some (H.put i (some (.lst T (qset q.2 m d))))else none))else none
def isB (H:Hp) (i n:Nat):Bool:=match getB H i with|some cs=>Nat.beq cs.length n|none=>false
def storeA (P:Program) (H:Hp) (T:TypeId) (x v:AV):Option Hp:=
 (sz P T).bind fun n=>(cellsOf v).bind fun vs=>
  match x with
  | .oel i T' m off=>stL H n i T' m off v vs
  | .ptr i off=>(match v with
    | .dat T' d=>bif Nat.beq off 0&&Nat.beq n (PG.cellsOf T')&&isB H i n&&vs.all one then some (H.put i (some (.dat T' d)))else stN H n (.ptr i off) vs
    |_=>stN H n (.ptr i off) vs)
  |x=>stN H n x vs
def addrAdd (o:Nat):AV→Option AV
 | .ptr i off=>some (.ptr i (off+o))
 | .eptr cs=>some (.eptr (cs.drop o))
 | .edat T d=>some (.eptr ((cellsT rowDepth T d).drop o))
 | .sc (.pointer (some ⟨g,off,none⟩))=>some (.sc (.pointer (some ⟨g,off+o,none⟩)))
 | .oel i T n off=>some (.oel i T n (off+o))
 |_=>none
def fieldOff (P:Program) (s:TypeId) (f:Nat):Option Nat:=
 match P.underlying s with
 |some (.struct fs)=>match fs[f]? with
  |some fd=>match sz P fd.type with
   |some (_+1)=>some fd.offset
   |_=>none
  |none=>none
 |_=>none
def fieldAddrA (P:Program) (s:TypeId) (f:Nat) (x:AV):Option AV:=(fieldOff P s f).bind fun o=>addrAdd o x
def elemAt (s:Nat) (n:Int):AV→Option AV
 | .sl i z off len=>if z=s∧0≤n∧n<len then some (.ptr i (off+n.toNat*s))else none
 | .esl xs=>if 0≤n then(xs[n.toNat]?).bind fun c=>if c.length=s then some (.eptr c)else none else none
 |_=>none
def arrAt (s len:Nat) (n:Int) (x:AV):Option AV:=if 0≤n∧n<len then addrAdd (n.toNat*s) x else none
def elemD (s:Nat) (n:Int):AV→Option AV
 | .osl i T _=>bif layOk PG rowDepth T&&Nat.beq (PG.cellsOf T) s then some (.oel i T n 0)else none
 | .rows T d=>bif layOk PG rowDepth T&&Nat.beq (PG.cellsOf T) s then(bif isAggT PG T then some (.edat T (qget d n))else some (.eptr (cellsT rowDepth T (qget d n))))else none
 |_=>none
def elemK (s:Nat) (n:Int) (x:AV):Option AV:=
 match x with
 | .rows T d=>elemD s n (.rows T d)
 | .osl i T m=>elemD s n (.osl i T m)
 |x=>elemAt s n x
def idxA (P:Program) (T:TypeId) (x:AV):AV→Option AV
 | .sc (.int _ n)=>
   match P.underlying T with
   |some (.array len e)=>(sz P e).bind fun s=>arrAt s len n x
   |some (.slice e)=>(sz P e).bind fun s=>elemK s n x
   |_=>none
 | .ui _ n=>
   match P.underlying T with
   |some (.slice e)=>(sz P e).bind fun s=>elemD s n x
   |_=>none
 |_=>none
def idxO (x:AV) (n:Int):List Bool:=match x with | .rows _ d=>[qinb d n] | .osl _ _ m=>[qcmp .leq 0 n,qcmp .lss n m]|_=>[]
def idxObl (x:AV):AV→List Bool
 | .sc (.int _ n)=>idxO x n
 | .ui _ n=>idxO x n
 |_=>[]
def idxG (P:Program) (H:Hp) (T:TypeId) (c:Value) (ix:AV):Option AV:=
 match c,ix with
 | .pointer (some ⟨g,off,none⟩), .ui _ n=>
   (match P.underlying T with
   |some (.array len e)=>(sz P e).bind fun s=>(H.glob g).bind fun cs=>(arrD e s len (cs.drop off)).bind fun ds=>
    bif layOk PG rowDepth e&&Nat.beq (PG.cellsOf e) s&&Nat.ble (len*s) (cs.drop off).length then
     some (bif isAggT PG e then .edat e (qget (.list ds) n)else .eptr (cellsT rowDepth e (qget (.list ds) n)))else none
   |_=>none)
 |_,_=>none
def idxGObl (P:Program) (H:Hp) (T:TypeId) (c:Value) (ix:AV):List Bool:=
 match c,ix with
 | .pointer (some ⟨g,off,none⟩), .ui _ n=>
   (match P.underlying T with
   |some (.array len e)=>(match(sz P e).bind fun s=>(H.glob g).bind fun cs=>arrD e s len (cs.drop off)with|some ds=>[qinb (.list ds) n]|none=>[])
   |_=>[])
 |_,_=>[]
def idxP (P:Program) (T:TypeId) (x ix:AV):Option AV:=
 match x,ix with
 | .ptr i off, .ui _ n=>(match P.underlying T with
   |some (.array _ e)=>(sz P e).bind fun s=>bif Nat.beq off 0&&layOk PG rowDepth e&&Nat.beq (PG.cellsOf e) s then some (.oel i e n 0)else none
   |_=>none)
 | .sl i z off _, .ui _ n=>(match P.underlying T with
   |some (.slice e)=>(sz P e).bind fun s=>bif Nat.beq off 0&&Nat.beq z s&&layOk PG rowDepth e&&Nat.beq (PG.cellsOf e) s then some (.oel i e n 0)else none
   |_=>none)
 |_,_=>none
def idxPObl (P:Program) (T:TypeId) (x ix:AV):List Bool:=
 match x,ix with
 | .ptr _ _, .ui _ n=>(match P.underlying T with
   |some (.array len _)=>[qcmp .leq 0 n,qcmp .lss n len]
   |_=>[])
 | .sl _ _ _ len, .ui _ n=>[qcmp .leq 0 n,qcmp .lss n len]
 |_,_=>[]
def idxOp (P:Program) (H:Hp) (T:TypeId) (o:Operand) (x ix:AV):Option AV:=
 match o with
 | .global g=>(match idxA P T x ix with|some v=>some v|none=>idxG P H T (.pointer (some ⟨g,0,none⟩)) ix)
 |_=>(match idxA P T x ix with|some v=>some v|none=>idxP P T x ix)
def idxOpObl (P:Program) (H:Hp) (T:TypeId) (o:Operand) (x ix:AV):List Bool:=
 match o with
 | .global g=>(match idxA P T x ix with|some _=>idxObl x ix|none=>idxGObl P H T (.pointer (some ⟨g,0,none⟩)) ix)
 |_=>(match idxA P T x ix with|some _=>idxObl x ix|none=>idxPObl P T x ix)
def atObl (H:Hp):AV→List Bool
 | .oel i T n _=>(match getV H i T with|some q=>[qinb q.2 n]|none=>[])
 |_=>[]
def isStr (P:Program) (T:TypeId):Bool:=match P.underlying T with|some .string=>true|_=>false
def indexA (P:Program) (T:TypeId) (x ix:AV):Option AV:=
 match x,ix with
 | .us s, .ui _ n=>bif isStr P T then some (.ui .u8 (qidxS s n))else none
 | .us s, .sc (.int _ n)=>bif isStr P T then some (.ui .u8 (qidxS s n))else none
 | .sc (.string s), .ui _ n=>bif isStr P T then some (.ui .u8 (qidxS s n))else none
 | .sc v, .sc i=>(pureRun P (Instr.index T v i)).map ofV
 | .agg cs, .sc (.int _ n)=>
   match P.underlying T with
   |some (.array len e)=>(sz P e).bind fun s=>if 0≤n∧n<len then
     (match aggB P e with
      |some true=>if n.toNat*s+s≤cs.length then some (.agg ((cs.drop (n.toNat*s)).take s))else none
      |some false=>cs[n.toNat*s]?
      |none=>none)else none
   |_=>none
 |_,_=>none
def idxSObl:AV→AV→List Bool
 | .us s, .ui _ n=>[qinbS s n]
 | .us s, .sc (.int _ n)=>[qinbS s n]
 | .sc (.string s), .ui _ n=>[qinbS s n]
 |_,_=>[]
def fieldC (P:Program) (T:TypeId) (f:Nat) (cs:List AV):Option AV:=
 match P.underlying T with
 |some (.struct fs)=>(fs[f]?).bind fun fd=>(sz P fd.type).bind fun s=>
   match aggB P fd.type with
   |some true=>if fd.offset+s≤cs.length then some (.agg ((cs.drop fd.offset).take s))else none
   |some false=>cs[fd.offset]?
   |none=>none
 |_=>none
def fieldA (P:Program) (T:TypeId) (f:Nat):AV→Option AV
 | .agg cs=>fieldC P T f cs
 | .dat T' d=>fieldC P T f (cellsT rowDepth T' d)
 |_=>none
def natOf:AV→Option Nat
 | .sc (.int _ n)=>if 0≤n then some n.toNat else none
 |_=>none
def lowOf:Option AV→Option Nat
 |none=>some 0
 |some x=>natOf x
def highOf (d:Nat):Option AV→Option Nat
 |none=>some d
 |some x=>natOf x
def sliceE (P:Program) (T:TypeId) (xs:List (List AV)) (l h:Nat):Option AV:=
 if l≤h∧h≤xs.length then
  (match P.underlying T with
   |some (.slice e)=>(sz P e).bind fun s=>
    if l=0 then some (.esl (xs.take h))else if l<h then((xs[l]?).bind fun c=>if c.length=s then some (.esl ((xs.take h).drop l))else none)else some (.esl [])
   |_=>none)else none
def sliceO (P:Program) (T:TypeId) (i z off len l h:Nat):Option AV:=
 if l≤h∧h≤len then
  (match P.underlying T with
   |some (.slice e)=>(sz P e).bind fun s=>if s=z then(if l=0 then some (.sl i z off h)else if l<h then some (.sl i z (off+l*z) (h-l))else some (.esl []))else none
   |_=>none)else none
def sliceP (P:Program) (H:Hp) (T:TypeId) (i off l:Nat) (hi:Option AV):Option AV:=
 match P.underlying T with
 |some (.array n e)=>(sz P e).bind fun s=>(highOf n hi).bind fun h=>(getB H i).bind fun cs=>if l≤h∧h≤n∧off+n*s≤cs.length then
   (if l=0 then some (.sl i s off h)else if l<h then some (.sl i s (off+l*s) (h-l))else some (.esl []))else none
 |_=>none
def isSlice:AV→Bool
 | .sc (.slice _ _ _)=>true
 | .sl _ _ _ _=>true
 | .esl _=>true
 | .rows _ _=>true
 | .rowz _ _=>true
 | .osl _ _ _=>true
 | .e0=>true
 |_=>false
def valOpt:Option AV→Option (Option Value)
 |none=>some none
 |some (.sc v)=>some (some v)
 |some _=>none
def numOf:AV→Option Int
 | .sc (.int _ n)=>some n
 | .ui _ n=>some n
 |_=>none
def lowD:Option AV→Option Int
 |none=>some 0
 |some x=>numOf x
def highD (d:D):Option AV→Option Int
 |none=>some (qlen d)
 |some x=>numOf x
def sliceD (P':Program) (T':TypeId) (T:TypeId) (d:D) (lo hi:Option AV):Option AV:=
 match P'.underlying T' with
 |some (.slice e)=>bif (sz P' e).isSome&&Nat.beq (P'.cellsOf e) (PG.cellsOf T)&&layOk PG rowDepth T then(lowD lo).bind fun l=>(highD d hi).map fun h=> .rows T (qsub d l h)else none
 |_=>none
def highS (s:ByteArray):Option AV→Option Int
 |none=>some (qlenS s)
 |some x=>numOf x
def sliceS (P:Program) (T:TypeId) (s:ByteArray) (lo hi:Option AV):Option AV:=
 match P.underlying T with
 |some .string=>(lowD lo).bind fun l=>(highS s hi).map fun h=> .us (qsubS s l h)
 |_=>none
def sliceKS (P:Program) (T:TypeId) (v:Value) (lo hi:Option AV):Option AV:=
 match v with
 | .string s=>sliceS P T s lo hi
 |_=>none
def sliceObl (x:AV) (lo hi:Option AV):List Bool:=
 match x with
 | .sc (.string s)=>(match valOpt lo,valOpt hi with
   |some _,some _=>[]
   |_,_=>(match lowD lo,highS s hi with
    |some l,some h=>[qcmp .leq 0 l,qcmp .leq l h,qcmp .leq h (qlenS s)]
    |_,_=>[]))
 | .us s=>(match lowD lo,highS s hi with
   |some l,some h=>[qcmp .leq 0 l,qcmp .leq l h,qcmp .leq h (qlenS s)]
   |_,_=>[])
 | .rows _ d=>(match lowD lo,highD d hi with
   |some l,some h=>[qcmp .leq 0 l,qcmp .leq l h,qcmp .leq h (qlen d)]
   |_,_=>[])
 | .osl _ _ m=>(match hi with
   |none=>[]
   |some y=>(match numOf y with
    |some h=>[qcmp .leq 0 h,qcmp .leq h m]
    |none=>[]))
 |_=>[]
def isZ:AV→Bool
 | .sc (.int _ 0)=>true
 |_=>false
def sliceMObl (x:AV) (hi:Option AV) (mx:AV):List Bool:=
 match hi,x with
 |some h, .osl _ _ m=>bif isZ h&&(isZ mx&&isSlice x)then[]else
   (match numOf h,numOf mx with
   |some h,some k=>[qcmp .eql h m,qcmp .eql k m]
   |_,_=>[])
 |_,_=>[]
def sliceOsl (P:Program) (T T':TypeId) (i:Nat) (x:AV) (lo hi:Option AV):Option AV:=
 match P.underlying T with
 |some (.slice e)=>bif (sz P e).isSome&&Nat.beq (P.cellsOf e) (PG.cellsOf T')then(lowOf lo).bind fun l=>(match hi with|none=>(match x with | .osl _ _ m=>some m|_=>none)|some y=>numOf y).bind fun h=>bif Nat.beq l 0 then some (.osl i T' h)else none else none
 |_=>none
def sliceM (P:Program) (T:TypeId) (x:AV) (lo hi:Option AV) (mx:AV):Option AV:=
 match P.underlying T with
 |some (.slice e)=>bif (sz P e).isSome then(lowOf lo).bind fun l=>bif Nat.beq l 0 then hi.bind fun h=>
   bif isZ h&&(isZ mx&&isSlice x)then some .e0 else
   (match x with
   | .osl i T' _=>(numOf h).bind fun h=>(numOf mx).bind fun _=>bif Nat.beq (P.cellsOf e) (PG.cellsOf T')then some (.osl i T' h)else none
   | .sl i z off len=>(natOf h).bind fun h=>(natOf mx).bind fun m=>if h≤m∧m≤len then some (.sl i z off h)else none
   |_=>none)else none else none
 |_=>none
def sliceA (P:Program) (H:Hp) (T:TypeId) (x:AV) (lo hi mx:Option AV):Option AV:=
 match mx with
 |some m=>sliceM P T x lo hi m
 |none=>
  match x with
  | .osl i T' _=>sliceOsl P T T' i x lo hi
  | .rows T' d=>sliceD P T T' d lo hi
  | .esl xs=>(lowOf lo).bind fun l=>(highOf xs.length hi).bind fun h=>sliceE P T xs l h
  | .sl i z off len=>(lowOf lo).bind fun l=>(highOf len hi).bind fun h=>sliceO P T i z off len l h
  | .ptr i off=>(lowOf lo).bind fun l=>sliceP P H T i off l hi
  | .us s=>sliceS P T s lo hi
  | .sc v=>(match valOpt lo,valOpt hi with
    |some a,some b=>(pureRun P (Instr.sliceAt T v a b none)).map .sc
    |_,_=>sliceKS P T v lo hi)
  |_=>none
def nilEq (P:Program) (T:TypeId) (x:AV) (b:Value):Option Bool:=
 match P.underlying T with
 |some (.pointer _)=>(match x,b with
  | .ptr _ _, .pointer none=>some false
  | .eptr _, .pointer none=>some false
  | .edat _ _, .pointer none=>some false
  | .sc (.pointer none), .pointer none=>some true
  |_,_=>none)
 |some (.slice _)=>(match x,b with
  | .sl _ _ _ _, .slice none _ _=>some false
  | .rowz _ _, .slice none _ _=>some false
  | .esl (_::_), .slice none _ _=>some false
  | .sc (.slice none _ _), .slice none _ _=>some true
  |_,_=>none)
 |some (.map _ _)=>(match x,b with
  | .map _, .map none=>some false
  | .emap _, .map none=>some false
  | .sc (.map none), .map none=>some true
  |_,_=>none)
 |some (.func _ _ _)=>(match x,b with
  | .func _ _ _, .nilFunc=>some false
  | .sc .nilFunc, .nilFunc=>some true
  |_,_=>none)
 |_=>none
def leI:Int→Int→Bool
 | .ofNat a, .ofNat b=>Nat.ble a b
 | .ofNat _, .negSucc _=>false
 | .negSucc _, .ofNat _=>true
 | .negSucc a, .negSucc b=>Nat.ble b a
def intBin (op:BinOp) (k:IntKind) (a b:Int):Option AV:=
 match op with
 | .add=>some (.sc (.int k (k.wrap (a+b))))
 | .sub=>some (.sc (.int k (k.wrap (a-b))))
 | .mul=>some (.sc (.int k (k.wrap (a*b))))
 | .eql=>some (.sc (.bool (a==b)))
 | .neq=>some (.sc (.bool (a != b)))
 | .lss=>some (.sc (.bool (!(leI b a))))
 | .leq=>some (.sc (.bool (leI a b)))
 | .gtr=>some (.sc (.bool (!(leI a b))))
 | .geq=>some (.sc (.bool (leI b a)))
 | .quo=>if b=0 then none else some (.sc (.int k (k.wrap (a.tdiv b))))
 | .rem=>if b=0 then none else some (.sc (.int k (a.tmod b)))
 | .and=>some (.sc (.int k (k.wrap (BitVec.ofInt k.bits a &&& BitVec.ofInt k.bits b).toNat)))
 | .or=>some (.sc (.int k (k.wrap (BitVec.ofInt k.bits a ||| BitVec.ofInt k.bits b).toNat)))
 | .xor=>some (.sc (.int k (k.wrap (BitVec.ofInt k.bits a ^^^ BitVec.ofInt k.bits b).toNat)))
 | .andNot=>some (.sc (.int k (k.wrap (BitVec.ofInt k.bits a &&& ~~~ BitVec.ofInt k.bits b).toNat)))
 |_=>none
def shiftBin (op:BinOp) (k:IntKind) (a b:Int):Option AV:=
 if b<0 then none else
 match op with
 | .shl=>some (.sc (.int k (k.wrap (a*2^(min b.toNat k.bits)))))
 | .shr=>some (.sc (.int k (a.fdiv (2^(min b.toNat k.bits)))))
 |_=>none
def isShift:BinOp→Bool
 | .shl=>true
 | .shr=>true
 |_=>false
def intBin' (op:BinOp) (k:IntKind) (a:Int) (k':IntKind) (b:Int):Option AV:=
 bif isShift op then shiftBin op k a b
 else if k=k' then intBin op k a b else none
def strBin (op:BinOp) (a b:ByteArray):Option AV:=
 match op with
 | .add=>if((a.size+b.size:Nat):Int)>9223372036854775807 then none else some (.sc (.string (a++b)))
 | .eql=>some (.sc (.bool (a.toList==b.toList)))
 | .neq=>some (.sc (.bool (!(a.toList==b.toList))))
 | .lss=>some (.sc (.bool (Op.bytesLess a.toList b.toList)))
 | .leq=>some (.sc (.bool (Op.bytesLess a.toList b.toList||a.toList==b.toList)))
 | .gtr=>some (.sc (.bool (!(Op.bytesLess a.toList b.toList||a.toList==b.toList))))
 | .geq=>some (.sc (.bool (!(Op.bytesLess a.toList b.toList))))
 |_=>none
def boolBin (op:BinOp) (a b:Bool):Option AV:=
 match op with
 | .eql=>some (.sc (.bool (a==b)))
 | .neq=>some (.sc (.bool (a != b)))
 |_=>none
def nilBin (P:Program) (op:BinOp) (T:TypeId) (x:AV) (b:Value):Option AV:=
 match op with
 | .eql=>(nilEq P T x b).map fun t=> .sc (.bool t)
 | .neq=>(nilEq P T x b).map fun t=> .sc (.bool (!t))
 |_=>none
def isCmp:BinOp→Bool
 | .eql=>true
 | .neq=>true
 | .lss=>true
 | .leq=>true
 | .gtr=>true
 | .geq=>true
 |_=>false
def isArith:BinOp→Bool
 | .add=>true
 | .sub=>true
 | .mul=>true
 | .quo=>true
 | .rem=>true
 | .and=>true
 | .or=>true
 | .xor=>true
 | .andNot=>true
 |_=>false
def uiBin (op:BinOp) (k:IntKind) (a:Int) (k':IntKind) (b:Int):Option AV:=
 bif isShift op then some (.ui k (qbin op k a b))
 else if k=k' then
  (bif isCmp op then some (.ub (qcmp op a b))else bif isArith op then some (.ui k (qbin op k a b))else none)
 else none
def usBin (op:BinOp) (a b:ByteArray):Option AV:=
 match op with
 | .add=>some (.us (qcat a b))
 |op=>bif isCmp op then some (.ub (qcmpS op a b))else none
def ubBin (P:Program) (op:BinOp) (T:TypeId) (a b:Bool):Option AV:=
 match P.underlying T with
 |some .bool=>(match op with
  | .eql=>some (.ub (qeqB a b))
  | .neq=>some (.ub (qnot (qeqB a b)))
  |_=>none)
 |_=>none
def eq1 (P:Program) (T:TypeId) (x y:AV):Option AV:=
 match P.underlying T with
 |some (.int _)=>(match x,y with
  | .sc (.int k a), .sc (.int k' b)=>if k=k' then some (.sc (.bool (a==b)))else none
  | .sc (.int k a), .ui k' b=>if k=k' then some (.ub (qcmp .eql a b))else none
  | .ui k a, .sc (.int k' b)=>if k=k' then some (.ub (qcmp .eql a b))else none
  | .ui k a, .ui k' b=>if k=k' then some (.ub (qcmp .eql a b))else none
  |_,_=>none)
 |some .bool=>(match x,y with
  | .sc (.bool a), .sc (.bool b)=>some (.sc (.bool (a==b)))
  | .sc (.bool a), .ub b=>some (.ub (qeqB a b))
  | .ub a, .sc (.bool b)=>some (.ub (qeqB a b))
  | .ub a, .ub b=>some (.ub (qeqB a b))
  |_,_=>none)
 |some .string=>(match x,y with
  | .sc (.string a), .sc (.string b)=>some (.sc (.bool (a.toList==b.toList)))
  | .sc (.string a), .us b=>some (.ub (qcmpS .eql a b))
  | .us a, .sc (.string b)=>some (.ub (qcmpS .eql a b))
  | .us a, .us b=>some (.ub (qcmpS .eql a b))
  |_,_=>none)
 |_=>none
def andA (x y:AV):AV:=
 match x with
 | .sc (.bool false)=> .sc (.bool false)
 | .sc (.bool true)=>y
 | .ub a=>(match y with
   | .sc (.bool false)=> .sc (.bool false)
   | .sc (.bool true)=> .ub a
   | .ub b=> .ub (qand a b)
   |_=> .undef)
 |_=> .undef
def notA:AV→AV
 | .sc (.bool b)=> .sc (.bool !b)
 | .ub b=> .ub (qnot b)
 |_=> .undef
def eqF (P:Program) (xs ys:List AV):List Field→Option AV
 | []=>some (.sc (.bool true))
 |f::fs=>bif f.name == "_" then none else
  (xs[f.offset]?).bind fun x=>(ys[f.offset]?).bind fun y=>(eq1 P f.type x y).bind fun e=>(eqF P xs ys fs).map (andA e)
def eqE (P:Program) (T:TypeId) (xs ys:List AV):List Nat→Option AV
 | []=>some (.sc (.bool true))
 |j::js=>(xs[j]?).bind fun x=>(ys[j]?).bind fun y=>(eq1 P T x y).bind fun e=>(eqE P T xs ys js).map (andA e)
def aggEq (P:Program) (T:TypeId) (xs ys:List AV):Option AV:=
 match P.underlying T with
 |some (.struct fs)=>bif P.stoodInHeld T||P.eqGuardType P.depth T then none else eqF P xs ys fs.toList
 |some (.array m e)=>bif P.eqGuardType P.depth T then none else(match sz P e with|some 1=>eqE P e xs ys (List.range m)|_=>none)
 |_=>none
def aggBin (P:Program) (op:BinOp) (T:TypeId) (xs:List AV) (y:AV):Option AV:=
 match y with
 | .agg ys=>(match op with | .eql=>aggEq P T xs ys | .neq=>(aggEq P T xs ys).map notA|_=>none)
 | .dat T' d=>(match op with | .eql=>aggEq P T xs (cellsT rowDepth T' d) | .neq=>(aggEq P T xs (cellsT rowDepth T' d)).map notA|_=>none)
 |_=>none
def binObl (op:BinOp) (x y:AV):List Bool:=
 match op with
 | .quo=>(match x,y with
   | .ui _ _, .sc (.int _ b)=>bif (leI b 0&&leI 0 b)then[false]else[]
   |_, .ui _ b=>[qcmp .neq b 0]
   |_,_=>[])
 | .rem=>(match x,y with
   | .ui _ _, .sc (.int _ b)=>bif (leI b 0&&leI 0 b)then[false]else[]
   |_, .ui _ b=>[qcmp .neq b 0]
   |_,_=>[])
 | .shl=>(match x,y with
   | .ui _ _, .sc (.int _ b)=>bif leI 0 b then[]else[false]
   |_, .ui _ b=>[qcmp .geq b 0]
   |_,_=>[])
 | .shr=>(match x,y with
   | .ui _ _, .sc (.int _ b)=>bif leI 0 b then[]else[false]
   |_, .ui _ b=>[qcmp .geq b 0]
   |_,_=>[])
 | .add=>(match x,y with
   | .us a, .us b=>[qcatOk a b]
   | .us a, .sc (.string b)=>[qcatOk a b]
   | .sc (.string a), .us b=>[qcatOk a b]
   |_,_=>[])
 |_=>[]
def binA (P:Program) (op:BinOp) (T:TypeId) (x y:AV):Option AV:=
 match x with
 | .sc (.int k a)=>(match y with
   | .sc (.int k' b)=>intBin' op k a k' b
   | .ui k' b=>uiBin op k a k' b
   |_=>none)
 | .ui k a=>(match y with
   | .sc (.int k' b)=>uiBin op k a k' b
   | .ui k' b=>uiBin op k a k' b
   |_=>none)
 | .sc (.string a)=>(match y with
   | .sc (.string b)=>strBin op a b
   | .us b=>usBin op a b
   |_=>none)
 | .us a=>(match y with
   | .sc (.string b)=>usBin op a b
   | .us b=>usBin op a b
   |_=>none)
 | .sc (.bool a)=>(match y with
   | .sc (.bool b)=>(match P.underlying T with
     |some .bool=>boolBin op a b
     |_=>none)
   | .ub b=>ubBin P op T a b
   |_=>none)
 | .ub a=>(match y with
   | .sc (.bool b)=>ubBin P op T a b
   | .ub b=>ubBin P op T a b
   |_=>none)
 | .agg xs=>aggBin P op T xs y
 | .dat T' d=>aggBin P op T (cellsT rowDepth T' d) y
 |x=>(match y with
  | .sc b=>nilBin P op T x b
  |_=>none)
def unA (P:Program) (op:UnOp):AV→Option AV
 | .sc a=>(pureRun P (Op.unary op a)).map ofV
 | .ui k n=>(match op with
   | .neg=>some (.ui k (qun .neg k n))
   | .xor=>some (.ui k (qun .xor k n))
   |_=>none)
 | .ub b=>(match op with
   | .not=>some (.ub (qnot b))
   |_=>none)
 |_=>none
def bytesK:List (List AV)→Option (List Int)
 | []=>some []
 | [.sc (.int .u8 n)]::r=>(bytesK r).map (n :: ·)
 |_=>none
def convA (P:Program) (src dst:TypeId):AV→Option AV
 | .sc a=>(pureRun P (convert src dst a)).map ofV
 | .ui _ n=>(match P.underlying src,P.underlying dst with
   |some _,some (.int k)=>some (.ui k (qwrap k n))
   |_,_=>none)
 | .us s=>(match P.underlying src,P.underlying dst with
   |some .string,some .string=>some (.us s)
   |_,_=>none)
 | .rows e' d=>(match P.underlying src,P.underlying dst with
   |some (.slice e),some .string=>(match P.underlying e,PG.underlying e with
    |some (.int .u8),some (.int .u8)=>bif Nat.beq (PG.cellsOf e) 1&&Nat.beq e' e then some (.us (qtext d))else none
    |_,_=>none)
   |_,_=>none)
 | .esl xs=>(match P.underlying src,P.underlying dst with
   |some (.slice e),some .string=>(match P.underlying e with
    |some (.int .u8)=>(bytesK xs).map fun ns=> .sc (.string (ns.foldl (fun r n=>r.push (UInt8.ofNat n.toNat)) ByteArray.empty))
    |_=>none)
   |_,_=>none)
 |_=>none
def bytesA (P:Program) (src dst:TypeId) (x:AV):Option AV:=
 match P.underlying src,P.underlying dst with
 |some .string,some (.slice e)=>(match P.underlying e,PG.underlying e with
  |some (.int .u8),some (.int .u8)=>bif Nat.beq (PG.cellsOf e) 1 then(match x with
   | .us s=>some (.rows e (qbytes s))
   | .sc (.string s)=>some (.esl (s.toList.map fun c=>[.sc (.int .u8 c.toNat)]))
   |_=>none)else none
  |_,_=>none)
 |_,_=>none
def pickA (c a b:AV):Option AV:=
 match c with
 | .sc (.bool true)=>some a
 | .sc (.bool false)=>some b
 |_=>none
def extractA (i:Nat):AV→Option AV
 | .tup vs=>vs[i]?
 | .nx b x y=>(match i with|0=>some (.ub b)|1=>some x|2=>some y|_=>none)
 |_=>none
def extractObl (i:Nat):AV→List Bool
 | .nx b _ _=>(match i with|0=>[]|_=>[b])
 |_=>[]
def nextK (H:Hp) (i:Nat) (s:ByteArray) (p:Nat):AV×Hp:=
 bif Nat.blt p s.size then(.tup [.sc (.bool true), .sc (.int .i64 p), .sc (.int .i32 ((Utf8.decode s p).1:Nat))],H.put i (some (.siter s ((p+(Utf8.decode s p).2:Nat):Int) true)))
 else(.tup [.sc (.bool false)],H)
def nextU (H:Hp) (i:Nat) (s:ByteArray) (pos:Int):AV×Hp:=
 (.nx (qcmp .lss pos (qlenS s)) (.ui .i64 pos) (.ui .i32 (qrune s pos)),H.put i (some (.siter s (qiteI (qcmp .lss pos (qlenS s)) (qrw s pos) pos) false)))
def nextE (H:Hp) (i:Nat) (es:List (Value×AV)) (n:Nat):Option (AV×Hp):=
 match es with
 | []=>bif Nat.beq n 0 then some (.tup [.sc (.bool false)],H)else none
 | [(k,v)]=>bif Nat.beq n 0 then some (.tup [.sc (.bool true),ofV k,v],H.put i (some (.miter [(k,v)] 1)))
    else bif Nat.beq n 1 then some (.tup [.sc (.bool false)],H)else none
 |_=>none
def nextM (H:Hp) (x:AV):Option (AV×Hp):=
 match x with
 | .ptr i off=>bif Nat.beq off 0 then(match H.get i with
   |some (.miter es n)=>nextE H i es n
   |_=>none)else none
 |_=>none
def entryE (es:List (Value×AV)) (n:Nat):Option AV:=
 match es with
 | [(k,v)]=>bif Nat.beq n 1 then some (.tup [ofV k,v])else none
 |_=>none
def entryA (H:Hp) (x:AV):Option AV:=
 match x with
 | .ptr i off=>bif Nat.beq off 0 then(match H.get i with
   |some (.miter es n)=>entryE es n
   |_=>none)else none
 |_=>none
def nextA (H:Hp) (x:AV) (isS:Bool):Option (AV×Hp):=
 bif isS then
  (match x with
   | .ptr i off=>bif Nat.beq off 0 then(match H.get i with
     |some (.siter s pos kn)=>some (bif kn then nextK H i s pos.toNat else nextU H i s pos)
     |_=>none)else none
   |_=>none)
 else nextM H x
def nilCheckA:AV→Option AV
 | .ptr i off=>some (.ptr i off)
 | .eptr cs=>some (.eptr cs)
 | .edat T d=>some (.edat T d)
 | .oel i T n off=>some (.oel i T n off)
 | .sc (.pointer (some a))=>some (.sc (.pointer (some a)))
 | .func f a b=>some (.func f a b)
 |_=>none
def fillA (place:Nat→Option (Nat×Nat)) (cells:List AV):List (Nat×AV)→Option (List AV)
 | []=>some cells
 | (i,v)::rest=>(place i).bind fun(off,size)=>(cellsOf v).bind fun vs=>
    if vs.length=size∧off+size≤cells.length then fillA place (setCells cells off vs) rest else none
def structPlaces (P:Program) (fs:List Field):Option (List (Nat×Nat)):=mapO (fun f=>(sz P f.type).map fun s=>(f.offset,s)) fs
def buildA (P:Program) (T:TypeId) (parts:List (Nat×AV)):Option AV:=
 (zeroA P T).bind fun z=>(cellsOf z).bind fun zs=>
 match P.underlying T with
 |some (.struct fs)=>(structPlaces P fs.toList).bind fun pl=>(fillA (pl[·]?) zs parts).map .agg
 |some (.array _ e)=>(sz P e).bind fun s=>(fillA (fun i=>some (i*s,s)) zs parts).map .agg
 |_=>none
def repl {α:Type} (xs:List α):Nat→List α
 |0=>[]
 |n+1=>xs++repl xs n
def buildSliceA (P:Program) (T:TypeId) (len:Nat) (parts:List (Nat×AV)) (H:Hp):Option (AV×Hp):=
 match P.underlying T with
 |some (.slice e)=>(sz P e).bind fun s=>(zeroA P e).bind fun z=>(cellsOf z).bind fun zs=>
   if zs.length=s∧0<s∧len*s≤16777216 then
    (fillA (fun i=>some (i*s,s)) (repl zs len) parts).map fun cs=>(.sl H.n s 0 len,H.push (.cells cs))
   else none
 |_=>none
def makeSliceA (P:Program) (T:TypeId) (l c:AV) (H:Hp):Option (AV×Hp):=
 match P.underlying T,l,c with
 |some (.slice e), .sc (.int _ n), .sc (.int _ m)=>(P.info? e).bind fun info=>(zeroA P e).bind fun z=>(cellsOf z).bind fun zs=>
   if zs.length=info.size∧0<info.size∧0≤n∧n≤m∧m<9223372036854775808∧info.bytes*m≤281474976710656 then
    some (.sl H.n info.size 0 n.toNat,H.push (.cells (repl zs m.toNat)))
   else none
 |_,_,_=>none
def bigN:AV→Bool
 | .sc (.int _ n)=>Nat.blt 64 n.toNat
 |_=>false
def makeSliceL (P:Program) (T:TypeId) (l c:AV) (H:Hp):Option (AV×Hp):=
 match P.underlying T with
 |some (.slice e)=>(numOf l).bind fun n=>(numOf c).bind fun _=>(P.info? e).bind fun info=>(zeroA P e).bind fun z=>(cellsOf z).bind fun zs=>
   bif Nat.beq info.size (PG.cellsOf e)&&Nat.blt 0 info.size&&Nat.beq zs.length info.size&&layOk PG rowDepth e then
    (avD dDepth e (uncell e zs)).bind fun d=>some (.osl H.n e n,H.push (.lst e (qrep n d)))
   else none
 |_=>none
def orMk (x y:Option (AV×Hp)):Option (AV×Hp):=
 match x with
 |some p=>some p
 |none=>y
def makeOp (clr:Bool) (P:Program) (T:TypeId) (l c:AV) (H:Hp):Option (AV×Hp):=orMk (bif clr&&bigN l then none else makeSliceA P T l c H) (makeSliceL P T l c H)
def makeObl (clr:Bool) (P:Program) (T:TypeId) (l c:AV) (H:Hp):List Bool:=
 match(bif clr&&bigN l then none else makeSliceA P T l c H)with
 |some _=>[]
 |none=>(match numOf l,numOf c with
  |some n,some m=>[qcmp .leq 0 n,qcmp .leq n m,qmem m (match P.underlying T with|some (.slice e)=>(match P.info? e with|some info=>info.bytes|none=>0)|_=>0)]
  |_,_=>[])
def rowsOf (z:Nat) (H:Hp):AV→Option (List AV×Nat)
 | .sl i z' off len=>(getB H i).bind fun cs=>if z'=z∧off+len*z≤cs.length then some ((cs.drop off).take (len*z),len)else none
 | .esl xs=>if xs.all (fun x=>x.length==z)then some (xs.flatten,xs.length)else none
 | .sc (.slice none 0 0)=>some ([],0)
 | .e0=>some ([],0)
 |_=>none
def isSlT (P:Program) (S:TypeId):Bool:=
 match P.underlying S with
 |some (.slice _)=>true
 |_=>false
def bytesC:List AV→Option (List Int)
 | []=>some []
 | .sc (.int .u8 n)::r=>(bytesC r).map (n :: ·)
 |_=>none
def bytesU:List AV→Option (List D)
 | []=>some []
 | .sc (.int .u8 n)::r=>(bytesU r).map (.int n :: ·)
 | .ui .u8 n::r=>(bytesU r).map (.int n :: ·)
 |_=>none
def textH (P:Program) (H:Hp) (src dst:TypeId) (x:AV):Option AV:=
 match P.underlying src,P.underlying dst with
 |some (.slice e),some .string=>(match P.underlying e,x with
  |some (.int .u8), .sl _ _ _ _=>(rowsOf 1 H x).bind fun p=>orAV ((bytesC p.1).map fun ns=> .sc (.string (ns.foldl (fun r n=>r.push (UInt8.ofNat n.toNat)) ByteArray.empty))) ((bytesU p.1).map fun ds=> .us (qtext (.list ds)))
  |_,_=>none)
 |_,_=>none
def convH (P:Program) (H:Hp) (src dst:TypeId) (x:AV):Option AV:=orAV (convA P src dst x) (textH P H src dst x)
def convOp (P:Program) (H:Hp) (src dst:TypeId) (x:AV):Option (AV×Hp):=
 match bytesA P src dst x with
 |some v=>some (v,H)
 |none=>(convH P H src dst x).bind fun v=>some (v,H)
def appendA (P:Program) (sT:TypeId) (s x:AV) (H:Hp):Option (AV×Hp):=
 match P.underlying sT with
 |some (.slice e)=>(P.info? e).bind fun info=>(zeroA P e).bind fun z=>(cellsOf z).bind fun zs=>(rowsOf info.size H x).bind fun p=>
  if info.size=0∨zs.length≠info.size∨p.1.all one=false then none else
  match s with
  | .sc (.slice none 0 0)=>
    if p.2=0 then some (s,H)else
    if p.2*info.bytes≤140737488355328∧p.2≤4611686018427387904 then some (.sl H.n info.size 0 p.2,H.push (.cells p.1))else none
  | .e0=>
    if p.2=0 then some (s,H)else
    if p.2*info.bytes≤140737488355328∧p.2≤4611686018427387904 then some (.sl H.n info.size 0 p.2,H.push (.cells p.1))else none
  | .sl i z off len=>(getB H i).bind fun cs=>
    if z=info.size∧off=0∧len*z≤cs.length then
     (if p.2=0 then some (s,H)else
      if(len+p.2)*info.bytes≤140737488355328∧len+p.2≤4611686018427387904 then some (.sl H.n z 0 (len+p.2),(H.put i none).push (.cells (cs.take (len*z)++p.1)))else none)
    else none
  |_=>none
 |_=>none
def orP {α:Type} (x y:Option α):Option α:=
 match x with
 |some a=>some a
 |none=>y
def lenP (P:Program) (T:TypeId) (x:AV):Option AV:=
 match P.underlying T,x with
 |some (.slice _), .sl _ _ _ len=>some (.sc (.int .i64 len))
 |some (.slice _), .esl xs=>some (.sc (.int .i64 xs.length))
 |some (.slice _), .sc (.slice none 0 0)=>some (.sc (.int .i64 0))
 |some (.slice _), .e0=>some (.sc (.int .i64 0))
 |some .string, .sc (.string s)=>some (.sc (.int .i64 s.size))
 |some (.slice _), .rows _ d=>some (.ui .i64 (qlen d))
 |some (.slice _), .rowz _ d=>some (.ui .i64 (qlen d))
 |some (.slice _), .osl _ _ m=>some (.ui .i64 m)
 |some .string, .us s=>some (.ui .i64 (qlenS s))
 |some (.map _ _), .emap es=>some (.sc (.int .i64 es.length))
 |some (.array n _),_=>some (.sc (.int .i64 n))
 |_,_=>none
def lenM (P:Program) (T:TypeId) (es:List (Value×AV)):Option AV:=
 match P.underlying T with
 |some (.map _ _)=>some (.sc (.int .i64 es.length))
 |_=>none
def lenU (P:Program) (T:TypeId) (d:D):Option AV:=
 match P.underlying T with
 |some (.map _ _)=>some (.ui .i64 (qlen d))
 |_=>none
def lenA (P:Program) (T:TypeId) (H:Hp) (x:AV):Option AV:=
 match x with
 | .map i=>(match H.get i with
   |some (.map es)=>lenM P T es
   |some (.mp _ _ d)=>lenU P T d
   |_=>none)
 |x=>lenP P T x
def copyA (P:Program) (T:TypeId) (d x:AV) (H:Hp):Option (AV×Hp):=
 match P.underlying T,d with
 |some (.slice e), .sl i z off len=>(sz P e).bind fun s=>(rowsOf s H x).bind fun(src,n)=>(getB H i).bind fun cs=>
   if z=s∧off+(min n len)*s≤cs.length∧(src.take ((min n len)*s)).all one=true∧n*s=src.length then
    some (.sc (.int .i64 (min n len:Nat)),H.put i (some (.cells (setCells cs off (src.take ((min n len)*s))))))
   else none
 |_,_=>none
def keyIs:TypeDesc→Value→Bool
 | .int k, .int k' _=>k==k'
 | .string, .string _=>true
 | .bool, .bool _=>true
 |_,_=>false
def isIntK (k:IntKind):Value→Bool
 | .int k' _=>k==k'
 |_=>false
def keyArr (P:Program) (kd:TypeDesc) (v:Value):Bool:=
 match kd,v with
 | .array m e, .agg cs=>(match P.underlying e,sz P e with
   |some (.int k),some 1=>Nat.beq cs.size m&&cs.toList.all (isIntK k)
   |_,_=>false)
 |_,_=>false
def keyOk (P:Program) (kd:TypeDesc) (v:Value):Bool:=keyIs kd v||keyArr P kd v
def eqInts:List Value→List Value→Bool
 | [],[]=>true
 | .int _ a::r, .int _ b::s=>a==b&&eqInts r s
 |_,_=>false
def scalsV:List AV→Option (List Value)
 | []=>some []
 | .sc v::r=>(scalsV r).map (v :: ·)
 |_=>none
def keyV:AV→Option Value
 | .sc v=>some v
 | .agg cs=>(scalsV cs).map fun vs=> .agg vs.toArray
 |_=>none
def keyEq:Value→Value→Bool
 | .agg a, .agg b=>eqInts a.toList b.toList
 | .int _ a, .int _ b=>a==b
 | .string a, .string b=>a==b
 | .bool a, .bool b=>a==b
 |_,_=>false
def findA (k:Value):List (Value×AV)→Option AV
 | []=>none
 | (k',v)::es=>bif keyEq k k' then some v else findA k es
def updA (k:Value) (v:AV):List (Value×AV)→List (Value×AV)
 | []=>[(k,v)]
 | (k',v')::es=>bif keyEq k k' then(k,v)::es else(k',v')::updA k v es
def entriesP:AV→Option (List (Value×AV))
 | .emap es=>some es
 | .sc (.map none)=>some []
 |_=>none
def entriesOf (H:Hp):AV→Option (List (Value×AV))
 | .map i=>getM H i
 |x=>entriesP x
def lookupK (P:Program) (T:TypeId) (ok:Bool) (x k:AV) (H:Hp):Option AV:=
 match P.underlying T,keyV k with
 |some (.map kT eT),some kv=>(P.underlying kT).bind fun kd=>(entriesOf H x).bind fun es=>
   if keyOk P kd kv∧es.all (fun e=>keyOk P kd e.1)=true then
    (zeroA P eT).bind fun z=>
     match findA kv es with
     |some v=>some (bif ok then .tup [v, .sc (.bool true)]else v)
     |none=>some (bif ok then .tup [z, .sc (.bool false)]else z)
   else none
 |_,_=>none
def mapUpdateK (P:Program) (T:TypeId) (x k v:AV) (H:Hp):Option Hp:=
 match P.underlying T,keyV k,x with
 |some (.map kT _),some kv, .map i=>(P.underlying kT).bind fun kd=>(getM H i).bind fun es=>
   if keyOk P kd kv∧es.all (fun e=>keyOk P kd e.1)=true then some (H.put i (some (.map (updA kv v es))))else none
 |_,_,_=>none
def kvD (kT:TypeId) (d:D):Value:=
 match PG.underlying kT with
 |some (.int k)=> .int k d.toInt
 |some .string=> .string d.toStr
 |some .bool=> .bool d.toBool
 |some (.array m e)=>(match PG.underlying e with
  |some (.int k)=> .agg ((List.range m).map fun j=>Value.int k (d.fld j).toInt).toArray
  |_=>undef)
 |_=>undef
def valA (T:TypeId) (d:D):AV:=
 match PG.underlying T with
 |some (.int k)=> .ui k (qint d)
 |some .bool=> .ub (qbool d)
 |some .string=> .us (qstr d)
 |some (.slice e)=> .rows e d
 |some (.struct _)=> .dat T d
 |some (.array _ _)=> .dat T d
 |_=> .undef
def valD (T:TypeId) (x:AV):Option D:=
 match x with
 | .esl _=>none
 |x=>bif layOk PG rowDepth T&&plainT PG rowDepth T then avD dDepth T x else none
def keyT (P:Program) (kT:TypeId):Bool:=
 match P.underlying kT,PG.underlying kT with
 |some (.int k),some (.int k')=>k==k'
 |some .string,some .string=>true
 |some .bool,some .bool=>true
 |some (.array m e),some (.array m' e')=>Nat.beq m m'&&(match P.underlying e,PG.underlying e',sz P e with
  |some (.int k),some (.int k'),some 1=>k==k'&&Nat.beq (PG.cellsOf e') 1
  |_,_,_=>false)
 |_,_=>false
def keyDV (kT:TypeId) (v:Value):Option D:=
 match PG.underlying kT,v with
 |some (.int k), .int k' n=>bif k==k' then some (.int n)else none
 |some .string, .string s=>some (.str s)
 |some .bool, .bool b=>some (.bool b)
 |_,_=>none
def entsOf (kT vT:TypeId) (es:List (Value×AV)):Option D:=
 (mapO (fun e=>(keyDV kT e.1).bind fun k=>(valD vT e.2).map fun v=>D.agg [k,v]) es).map .list
def mpOf (H:Hp) (i:Nat) (kT vT:TypeId):Option D:=
 match H.get i with
 |some (.mp k v d)=>bif Nat.beq k kT&&Nat.beq v vT then some d else none
 |some (.map es)=>entsOf kT vT es
 |_=>none
def findD (kT:TypeId) (k:D) (xs:List D):Option D:=(xs.find? fun x=>keyEq (kvD kT k) (kvD kT (x.fld 0))).map fun x=>x.fld 1
def rmhas (kT:TypeId) (m k:D):Bool:=(findD kT k m.toList).isSome
def rmget (kT:TypeId) (z m k:D):D:=(findD kT k m.toList).getD z
def putD (kT:TypeId) (k v:D):List D→List D
 | []=>[.agg [k,v]]
 |x::xs=>bif keyEq (kvD kT k) (kvD kT (x.fld 0))then .agg [k,v]::xs else x::putD kT k v xs
def qmhas:TypeId→D→D→Bool:=veil rmhas
def qmget:TypeId→D→D→D→D:=veil rmget
def qmput:TypeId→D→D→D→D:=veil fun kT m k v=> .list (putD kT k v m.toList)
def lookupU (P:Program) (T:TypeId) (ok:Bool) (x k:AV) (H:Hp):Option AV:=
 match P.underlying T,x with
 |some (.map kT eT), .map i=>(mpOf H i kT eT).bind fun d=>bif keyT P kT then
   (valD kT k).bind fun kd=>(zeroA P eT).bind fun z=>(valD eT z).bind fun zd=>
    some (bif ok then .tup [valA eT (qmget kT zd d kd), .ub (qmhas kT d kd)]else valA eT (qmget kT zd d kd))else none
 |some (.map kT eT), .sc (.map none)=>bif keyT P kT then(valD kT k).bind fun _=>(zeroA P eT).bind fun z=>some (bif ok then .tup [z, .sc (.bool false)]else z)else none
 |_,_=>none
def lookupA (P:Program) (T:TypeId) (ok:Bool) (x k:AV) (H:Hp):Option AV:=orAV (lookupK P T ok x k H) (lookupU P T ok x k H)
def mapUpdateU (P:Program) (T:TypeId) (x k v:AV) (H:Hp):Option Hp:=
 match P.underlying T,x with
 |some (.map kT eT), .map i=>(mpOf H i kT eT).bind fun d=>bif keyT P kT then
   (valD kT k).bind fun kd=>(valD eT v).bind fun vd=>some (H.put i (some (.mp kT eT (qmput kT d kd vd))))else none
 |_,_=>none
def mapUpdateA (P:Program) (T:TypeId) (x k v:AV) (H:Hp):Option Hp:=
 match mapUpdateK P T x k v H with
 |some H'=>some H'
 |none=>mapUpdateU P T x k v H
def expoDepth:Nat:=12
def expoS (v:Value):Option AV:=some (.sc v)
def expo (H:Hp):Nat→AV→Option AV
 |0,_=>none
 |n+1,x=>
  match x with
  | .undef=>some .undef
  | .sc v=>expoS v
  | .ptr i off=>orAV (datP H i off) ((getB H i).bind fun cs=>(mapO (expo H n) (cs.drop off)).map .eptr)
  | .sl i z off len=>(getB H i).bind fun cs=>if off+len*z≤cs.length then(mapO (expo H n) ((cs.drop off).take (len*z))).map fun cs=> .esl (chunks z len cs)else none
  | .map i=>(getM H i).bind fun es=>(mapO (fun e=>(expo H n e.2).map fun v=>(e.1,v)) es).map .emap
  | .func f a b=>(mapO (expo H n) a).bind fun a=>(mapO (expo H n) b).map fun b=> .func f a b
  | .agg cs=>(mapO (expo H n) cs).map .agg
  | .tup cs=>(mapO (expo H n) cs).map .tup
  | .osl i T _=>(getL H i).bind fun q=>bif Nat.beq q.1 T then some (.rows T q.2)else none
  | .oel _ _ _ _=>none
  | .nx _ _ _=>none
  |x=>some x
def oslObl (H:Hp):AV→List Bool
 | .osl i _ m=>(match getL H i with|some q=>[qcmp .eql m (qlen q.2)]|none=>[])
 |_=>[]
def expoObl (H:Hp):Nat→AV→List Bool
 |0,_=>[]
 |n+1,x=>
  match x with
  | .ptr i off=>(match getB H i with|some cs=>((cs.drop off).map (expoObl H n)).flatten|none=>[])
  | .sl i z off len=>(match getB H i with|some cs=>(((cs.drop off).take (len*z)).map (expoObl H n)).flatten|none=>[])
  | .map i=>(match getM H i with|some es=>(es.map fun e=>expoObl H n e.2).flatten|none=>[])
  | .func _ a b=>(a.map (expoObl H n)).flatten++(b.map (expoObl H n)).flatten
  | .agg cs=>(cs.map (expoObl H n)).flatten
  | .tup cs=>(cs.map (expoObl H n)).flatten
  | .osl i T m=>oslObl H (.osl i T m)
  |_=>[]
def extFree (H:Hp):Nat→AV→Bool
 |0,_=>false
 |n+1,x=>
  match x with
  | .undef=>true
  | .sc _=>true
  | .ptr i off=>bif (datB H i).isSome then false else match getB H i with|some cs=>(cs.drop off).all (extFree H n)|none=>false
  | .sl i z off len=>match getB H i with|some cs=>((cs.drop off).take (len*z)).all (extFree H n)|none=>false
  | .map i=>match getM H i with|some es=>es.all (fun e=>extFree H n e.2)|none=>false
  | .func _ a b=>a.all (extFree H n)&&b.all (extFree H n)
  | .agg cs=>cs.all (extFree H n)
  | .tup cs=>cs.all (extFree H n)
  | .eptr _=>false
  | .esl xs=>xs.isEmpty
  | .emap _=>false
  | .ui _ _=>true
  | .ub _=>true
  | .us _=>true
  | .rows _ _=>false
  | .dat _ _=>false
  | .edat _ _=>false
  | .rowz _ _=>false
  | .osl _ _ _=>false
  | .oel _ _ _ _=>false
  | .e0=>true
  | .anyI _=>true
  | .nx _ _ _=>false
def ownFree:Nat→AV→Bool
 |0,_=>false
 |n+1,x=>
  match x with
  | .ptr _ _=>false
  | .sl _ _ _ _=>false
  | .map _=>false
  | .osl _ _ _=>false
  | .oel _ _ _ _=>false
  | .nx _ _ _=>false
  | .func _ a b=>a.all (ownFree n)&&b.all (ownFree n)
  | .agg cs=>cs.all (ownFree n)
  | .tup cs=>cs.all (ownFree n)
  |_=>true
def tch (H:Hp):Nat→AV→List Nat
 |0,_=>[]
 |n+1,x=>
  match x with
  | .ptr i off=>i::(match getB H i with|some cs=>((cs.drop off).map (tch H n)).flatten|none=>[])
  | .sl i z off len=>i::(match getB H i with|some cs=>(((cs.drop off).take (len*z)).map (tch H n)).flatten|none=>[])
  | .map i=>i::(match getM H i with|some es=>(es.map fun e=>tch H n e.2).flatten|none=>[])
  | .func _ a b=>(a.map (tch H n)).flatten++(b.map (tch H n)).flatten
  | .agg cs=>(cs.map (tch H n)).flatten
  | .tup cs=>(cs.map (tch H n)).flatten
  | .osl i _ _=>[i]
  | .oel i _ _ _=>[i]
  |_=>[]
def tchL (H:Hp) (n:Nat) (xs:List AV):List Nat:=(xs.map (tch H n)).flatten
def srcD (e:TypeId) (H:Hp) (x:AV):Option D:=
 match x with
 | .rows T d=>bif Nat.beq T e then some d else none
 | .rowz T d=>bif Nat.beq T e then some d else none
 | .osl j _ _=>(getL H j).bind fun q=>bif Nat.beq q.1 e then some q.2 else none
 |x=>(rowsOf (PG.cellsOf e) H x).bind fun p=>(mapO (expo H expoDepth) p.1).bind fun cs=>(mapO (fun cs=>avD dDepth e (uncell e cs)) (chunks (PG.cellsOf e) p.2 cs)).map .list
def srcCells (e:TypeId) (H:Hp) (x:AV):List AV:=
 match x with
 | .rows _ _=>[]
 | .rowz _ _=>[]
 | .osl _ _ _=>[]
 |x=>match rowsOf (PG.cellsOf e) H x with|some p=>p.1|none=>[]
def kill:List Nat→Hp→Hp
 | [],H=>H
 |i::is,H=>kill is (H.put i none)
def rangeF (H:Hp) (x:AV):Option (AV×Hp):=
 match expo H expoDepth x with
 |some (.emap es)=>bif (expoObl H expoDepth x).isEmpty then some (.ptr H.n 0,(kill (tch H expoDepth x) H).push (.miter es 0))else none
 |_=>none
def rangeA (P:Program) (H:Hp) (T:TypeId) (x:AV):Option (AV×Hp):=
 match P.underlying T with
 |some (.map _ _)=>(match x with
  | .emap es=>some (.ptr H.n 0,H.push (.miter es 0))
  | .sc (.map none)=>some (.ptr H.n 0,H.push (.miter [] 0))
  | .map i=>rangeF H (.map i)
  |_=>none)
 |some .string=>(match x with
  | .sc (.string s)=>some (.ptr H.n 0,H.push (.siter s 0 true))
  | .us s=>some (.ptr H.n 0,H.push (.siter s 0 false))
  |_=>none)
 |_=>none
def appendL1 (e:TypeId) (src:D) (d0:Option D) (s:AV) (H:Hp):Option (AV×Hp):=
 match s with
 | .sc (.slice none 0 0)=>some (.osl H.n e (qlen src),H.push (.lst e src))
 | .e0=>some (.osl H.n e (qlen src),H.push (.lst e src))
 | .sl i z off _=>bif Nat.beq off 0&&Nat.beq z (PG.cellsOf e)then d0.bind fun d=>(getB H i).bind fun _=>some (.osl H.n e (qlen (qapp d src)),(H.put i none).push (.lst e (qapp d src)))else none
 | .osl i T _=>(getL H i).bind fun q=>bif Nat.beq T e&&Nat.beq q.1 e then some (.osl H.n e (qlen (qapp q.2 src)),(H.put i none).push (.lst e (qapp q.2 src)))else none
 |_=>none
def appendL (P:Program) (sT:TypeId) (s x:AV) (H:Hp):Option (AV×Hp):=
 match P.underlying sT with
 |some (.slice e)=>(P.info? e).bind fun info=>(zeroA P e).bind fun z=>(cellsOf z).bind fun zs=>
  bif Nat.beq info.size (PG.cellsOf e)&&Nat.blt 0 info.size&&Nat.beq zs.length info.size&&layOk PG rowDepth e&&plainT PG rowDepth e then
   (srcD e H x).bind fun src=>appendL1 e src (srcD e H s) s (kill (tchL H expoDepth (srcCells e H x++srcCells e H s)) H)
  else none
 |_=>none
def noRoomS:AV→Bool
 | .sc (.slice none 0 0)=>true
 | .e0=>true
 |_=>false
def appendZ (P:Program) (sT:TypeId) (xT:TypeId) (s x:AV) (H:Hp):Option (AV×Hp):=
 match P.underlying sT,P.underlying xT with
 |some (.slice e),some (.int _)=>(P.info? e).bind fun info=>(zeroA P e).bind fun z=>(cellsOf z).bind fun zs=>(natOf x).bind fun n=>
  if info.size=0∨zs.length≠info.size∨noRoomS s=false then none else
   if n=0 then some (s,H)else
   if n*info.bytes≤140737488355328∧n≤4611686018427387904 then some (.sl H.n info.size 0 n,H.push (.cells (repl zs n)))else none
 |_,_=>none
def appendZL (P:Program) (sT:TypeId) (xT:TypeId) (s x:AV) (H:Hp):Option (AV×Hp):=
 match P.underlying sT,P.underlying xT with
 |some (.slice e),some (.int _)=>(numOf x).bind fun n=>(P.info? e).bind fun info=>(zeroA P e).bind fun z=>(cellsOf z).bind fun zs=>
   bif noRoomS s&&Nat.beq info.size (PG.cellsOf e)&&Nat.blt 0 info.size&&Nat.beq zs.length info.size&&layOk PG rowDepth e then
    (avD dDepth e (uncell e zs)).bind fun d=>some (.osl H.n e n,H.push (.lst e (qrep n d)))
   else none
 |_,_=>none
def appendOblZ (P:Program) (sT xT:TypeId) (s x:AV) (H:Hp):List Bool:=
 if xT=sT then[]else
  match appendZ P sT xT s x H with
  |some _=>[]
  |none=>(match numOf x with
   |some n=>[qcmp .lss 0 n,qmem n (match P.underlying sT with|some (.slice e)=>(match P.info? e with|some info=>info.bytes|none=>0)|_=>0)]
   |none=>[])
def appendObl (P:Program) (H:Hp):List AV→List TypeId→List Bool
 | [s,x],[T,T']=>(match appendA P T s x H with
   |some _=>[]
   |none=>(match appendL P T s x H with
    |some (.osl _ _ m,_)=>oslObl H s++oslObl H x++((match P.underlying T with|some (.slice e)=>srcCells e H x++srcCells e H s|_=>[]).map (expoObl H expoDepth)).flatten ++ [qmem m (match P.underlying T with|some (.slice e)=>(match P.info? e with|some info=>info.bytes|none=>0)|_=>0)]
    |_=>[]))++appendOblZ P T T' s x H
 |_,_=>[]
structure FnA where
 code:Code
 ntmps:Nat
 results:List ResultVar
inductive Out where
 |norm (fr:Fr) (H:Hp)
 |exit (i:Nat) (fr:Fr) (H:Hp)
 |ret (fr:Fr) (H:Hp)
 |goto (l:Nat) (fr:Fr) (H:Hp)
inductive Ot where
 |fail
 |leaf (o:Out)
 |br (b:Bool) (x y:Ot)
def Out.go {R:Type} (kn:Fr→Hp→Option R) (kx:Nat→Fr→Hp→Option R) (kr:Fr→Hp→Option R) (kg:Nat→Fr→Hp→Option R):Out→Option R
 | .norm fr H=>kn fr H
 | .exit i fr H=>kx i fr H
 | .ret fr H=>kr fr H
 | .goto l fr H=>kg l fr H
def Ot.go {R:Type} (kn:Fr→Hp→Option R) (kx:Nat→Fr→Hp→Option R) (kr:Fr→Hp→Option R) (kg:Nat→Fr→Hp→Option R):Ot→Option R
 | .fail=>none
 | .leaf o=>o.go kn kx kr kg
 | .br b x y=>bif b then x.go kn kx kr kg else y.go kn kx kr kg
structure Env where
 P:Program
 fn:FuncId→Option FnA
 isPure:FuncId→Bool
 isFrz:FuncId→Bool:=fun _=>false
 exc:List (Nat×Nat):=[]
 exi:List (Nat×Nat):=[]
 clr:Bool
 pre:FuncId→List AV→Hp→List Bool
 lp:Nat→Code→Option (Fr→Hp→Ot)
 n0:Nat
def inP (a b:Nat):List (Nat×Nat)→Bool
 | []=>false
 |p::ps=>bif Nat.beq p.1 a&&Nat.beq p.2 b then true else inP a b ps
abbrev Rec:=FuncId→List AV→Hp→Option (AV×Hp)
def callPure (r:Rec) (H0:Hp) (f:FuncId) (args:List AV):Option (AV×Bool):=
 (r f args H0).bind fun(v,Hc)=>bif (expoObl Hc expoDepth v).isEmpty then(expo Hc expoDepth v).map fun v'=>(v',extFree Hc expoDepth v)else none
def callA (env:Env) (r:Rec) (f:FuncId) (args:List AV) (H:Hp):Option (AV×Hp):=
 bif env.isPure f then
  (mapO (expo H expoDepth) args).bind fun args'=>(callPure r H.fresh f args').bind fun(v,fl)=>
   bif args.all (ownFree expoDepth)||fl then some (v,H)else none
 else bif env.isFrz f then
  (mapO (expo H expoDepth) args).bind fun args'=>(callPure r H.fresh f args').bind fun(v,_)=>some (v,kill (tchL H expoDepth args) H)
 else r f args H
def callV (env:Env) (r:Rec) (g:AV) (args:List AV) (H:Hp):Option (AV×Hp):=
 match g with
 | .func f a b=>callA env r f (a++args++b) H
 |_=>none
def callObl (env:Env) (f:FuncId) (args:List AV) (H:Hp):List Bool:=
 bif env.isPure f then(args.map (expoObl H expoDepth)).flatten++(match mapO (expo H expoDepth) args with|some args'=>env.pre f args' H.fresh|none=>[])
 else bif env.isFrz f then(args.map (expoObl H expoDepth)).flatten++(match mapO (expo H expoDepth) args with|some args'=>env.pre f args' H.fresh|none=>[])
 else env.pre f args H
def callVObl (env:Env) (g:AV) (args:List AV) (H:Hp):List Bool:=
 match g with
 | .func f a b=>callObl env f (a++args++b) H
 |_=>[]
def vA (H:Hp) (x:Option AV):Option (AV×Hp):=x.bind fun x=>some (x,H)
def uA (x:Option Hp):Option (AV×Hp):=x.bind fun H=>some (uv,H)
def blkOf (x:AV) (cs:List AV):Blk:=
 match x with
 | .dat T d=> .dat T d
 |_=> .cells cs
def boxA (H:Hp) (x:AV):Option (AV×Hp):=(cellsOf x).bind fun cs=>some (.ptr H.n 0,H.push (blkOf x cs))
def allocA (P:Program) (H:Hp) (T:TypeId):Option (AV×Hp):=(zeroA P T).bind fun z=>(cellsOf z).bind fun cs=>some (.ptr H.n 0,H.push (.cells cs))
def makeMapA (H:Hp):Option Operand→Option (AV×Hp)
 |none=>some (.map H.n,H.push (.map []))
 |some _=>none
def makeFuncA (H:Hp) (first cap:List AV):Fn→Option (AV×Hp)
 | .func f=>some (.func f first cap,H)
 |_=>none
def partsA (fr:Fr) (parts:Array (Nat×Operand)):List (Nat×AV):=parts.toList.map fun p=>(p.1,opd fr p.2)
def capA (P:Program) (T:TypeId) (x:AV):Option AV:=
 match P.underlying T,x with
 |some (.slice _), .sc (.slice none 0 0)=>some (.sc (.int .i64 0))
 |some (.slice _), .e0=>some (.sc (.int .i64 0))
 |_,_=>none
def capOp (P:Program) (H:Hp):List AV→List TypeId→Option (AV×Hp)
 | [x],[T]=>vA H (capA P T x)
 |_,_=>none
def lenOp (P:Program) (H:Hp):List AV→List TypeId→Option (AV×Hp)
 | [x],[T]=>vA H (lenA P T H x)
 |_,_=>none
def appendOp (P:Program) (H:Hp):List AV→List TypeId→Option (AV×Hp)
 | [s,x],[T,T']=>if T'=T then orP (appendA P T s x H) (appendL P T s x H)else orP (appendZ P T T' s x H) (appendZL P T T' s x H)
 |_,_=>none
def copyOp (P:Program) (H:Hp):List AV→List TypeId→Option (AV×Hp)
 | [d,x],[T,_]=>copyA P T d x H
 |_,_=>none
def mmA (op:BinOp) (x y:AV):Option AV:=
 match x,y with
 | .ui k a, .ui k' b=>if k=k' then some (.ui k (qmm op a b))else none
 | .sc (.int k a), .ui k' b=>if k=k' then some (.ui k (qmm op a b))else none
 | .ui k a, .sc (.int k' b)=>if k=k' then some (.ui k (qmm op a b))else none
 |_,_=>none
def minOp (P:Program) (H:Hp) (ts:Array TypeId) (ty:TypeId):List AV→Option (AV×Hp)
 | [.sc a, .sc b]=>vA H ((pureRun P (Builtin.min_ ts ty #[a,b])).map ofV)
 | [x,y]=>vA H (mmA .lss x y)
 |_=>none
def maxOp (P:Program) (H:Hp) (ts:Array TypeId) (ty:TypeId):List AV→Option (AV×Hp)
 | [.sc a, .sc b]=>vA H ((pureRun P (Builtin.max_ ts ty #[a,b])).map ofV)
 | [x,y]=>vA H (mmA .gtr x y)
 |_=>none
def builtinA (P:Program) (H:Hp) (b:Builtin) (args:List AV) (ts:Array TypeId) (ty:TypeId):Option (AV×Hp):=
 match b with
 | .len=>lenOp P H args ts.toList
 | .cap=>capOp P H args ts.toList
 | .append=>appendOp P H args ts.toList
 | .copy=>copyOp P H args ts.toList
 | .min=>minOp P H ts ty args
 | .max=>maxOp P H ts ty args
 |_=>none
def callOp (env:Env) (r:Rec) (fr:Fr) (H:Hp) (c:Call) (ty:TypeId):Option (AV×Hp):=
 match c.callee with
 | .value g=>callV env r (opd fr g) (c.args.toList.map (opd fr)) H
 | .builtin b=>builtinA env.P H b (c.args.toList.map (opd fr)) c.argTypes ty
 |_=>none
def sliceOp (P:Program) (fr:Fr) (H:Hp) (T:TypeId) (x:Operand) (lo hi mx:Option Operand):Option AV:=
 sliceA P H T (opd fr x) (lo.map (opd fr)) (hi.map (opd fr)) (mx.map (opd fr))
def obl (env:Env) (fr:Fr) (H:Hp):Op→List Bool
 | .binOp op _ x y _=>binObl op (opd fr x) (opd fr y)
 | .slice _ x lo hi mx=>(match mx with|none=>sliceObl (opd fr x) (lo.map (opd fr)) (hi.map (opd fr))|some m=>sliceMObl (opd fr x) (hi.map (opd fr)) (opd fr m))
 | .indexAddr T x i=>idxOpObl env.P H T x (opd fr x) (opd fr i)
 | .index _ x i=>idxSObl (opd fr x) (opd fr i)
 | .load _ a=>atObl H (opd fr a)
 | .extract x i=>extractObl i (opd fr x)
 | .makeSlice T l c=>makeObl env.clr env.P T (opd fr l) (opd fr c) H
 | .store _ a _=>atObl H (opd fr a)
 | .call c=>(match c.callee with
   | .value g=>callVObl env (opd fr g) (c.args.toList.map (opd fr)) H
   | .builtin .append=>appendObl env.P H (c.args.toList.map (opd fr)) c.argTypes.toList
   |_=>[])
 |_=>[]
def evOp0 (env:Env) (r:Rec) (fr:Fr) (H:Hp) (ty:TypeId):Op→Option (AV×Hp)
 | .move x=>some (opd fr x,H)
 | .assign x=>some (opd fr x,H)
 | .pick c a b=>vA H (pickA (opd fr c) (opd fr a) (opd fr b))
 | .alloc T=>allocA env.P H T
 | .box _ x=>boxA H (opd fr x)
 | .build T parts=>vA H (buildA env.P T (partsA fr parts))
 | .buildSlice T len parts=>buildSliceA env.P T len (partsA fr parts) H
 | .load T a=>vA H (loadA env.P H T (opd fr a))
 | .store T a x=>uA (storeA env.P H T (opd fr a) (opd fr x))
 | .nilCheck x=>vA H (nilCheckA (opd fr x))
 | .binOp op T x y _=>vA H (binA env.P op T (opd fr x) (opd fr y))
 | .unOp op _ x=>vA H (unA env.P op (opd fr x))
 | .convert s d x=>convOp env.P H s d (opd fr x)
 | .makeFunc f first cap=>makeFuncA H (first.toList.map (opd fr)) (cap.toList.map (opd fr)) f
 | .makeMap _ m=>makeMapA H m
 | .makeSlice T l c=>makeOp env.clr env.P T (opd fr l) (opd fr c) H
 | .slice T x lo hi mx=>vA H (sliceOp env.P fr H T x lo hi mx)
 | .fieldAddr s x f=>vA H (fieldAddrA env.P s f (opd fr x))
 | .field T x f=>vA H (fieldA env.P T f (opd fr x))
 | .indexAddr T x i=>vA H (idxOp env.P H T x (opd fr x) (opd fr i))
 | .index T x i=>vA H (indexA env.P T (opd fr x) (opd fr i))
 | .lookup T x k ok=>vA H (lookupA env.P T ok (opd fr x) (opd fr k) H)
 | .mapUpdate T m k x=>uA (mapUpdateA env.P T (opd fr m) (opd fr k) (opd fr x) H)
 | .extract x i=>vA H (extractA i (opd fr x))
 | .range T x=>rangeA env.P H T (opd fr x)
 | .next x b=>nextA H (opd fr x) b
 | .entry x=>vA H (entryA H (opd fr x))
 | .call c=>callOp env r fr H c ty
 |_=>none
def allB:List Bool→Bool
 | []=>true
 |b::bs=>bif b then allB bs else false
def evOp (env:Env) (r:Rec) (fr:Fr) (H:Hp) (ty:TypeId) (op:Op):Option (AV×Hp):=
 bif allB (obl env fr H op)then evOp0 env r fr H ty op else none
def guardAll {R:Type} (x:Option R):List Bool→Option R
 | []=>x
 |b::bs=>bif b then guardAll x bs else none
def opK {R:Type} (env:Env) (r:Rec) (fr:Fr) (H:Hp) (ty:TypeId) (op:Op) (k:AV×Hp→Option R):Option R:=
 guardAll ((evOp0 env r fr H ty op).bind k) (obl env fr H op)
def putA (fr:Fr) (dst:Option Tmp) (v:AV):Fr:=
 match dst with
 |some d=>fr.set d v
 |none=>fr
def frN {R:Type} (k:Nat→R):Nat→R
 |0=>k 0
 |n+1=>k (n+1)
def frI {R:Type} (k:Int→R):Int→R
 | .ofNat n=>frN (fun n=>k (.ofNat n)) n
 | .negSucc n=>frN (fun n=>k (.negSucc n)) n
def frV {R:Type} (k:Value→R):Value→R
 | .bool true=>k (.bool true)
 | .bool false=>k (.bool false)
 | .int kd n=>frI (fun n=>k (.int kd n)) n
 |v=>k v
def frL {α R:Type} (f:α→(α→R)→R):List α→(List α→R)→R
 | [],k=>k []
 |x::xs,k=>f x fun x=>frL f xs fun xs=>k (x::xs)
def frA {R:Type}:Nat→AV→(AV→R)→R
 |0,x,k=>k x
 |n+1,x,k=>
  match x with
  | .sc v=>frV (fun v=>k (.sc v)) v
  | .ptr i off=>frN (fun i=>frN (fun off=>k (.ptr i off)) off) i
  | .sl i z off len=>frN (fun i=>frN (fun z=>frN (fun off=>frN (fun len=>k (.sl i z off len)) len) off) z) i
  | .map i=>frN (fun i=>k (.map i)) i
  | .agg cs=>frL (frA n) cs fun cs=>k (.agg cs)
  | .tup cs=>frL (frA n) cs fun cs=>k (.tup cs)
  | .func f a b=>frL (frA n) a fun a=>frL (frA n) b fun b=>k (.func f a b)
  | .eptr cs=>frL (frA n) cs fun cs=>k (.eptr cs)
  | .osl i T m=>frN (fun i=>k (.osl i T m)) i
  |x=>k x
def frS {α R:Type}:List α→(List α→R)→R
 | [],k=>k []
 |x::xs,k=>frS xs fun xs=>k (x::xs)
def putK {R:Type} (clr:Bool) (fr:Fr) (dst:Option Tmp) (v:AV) (H:Hp) (k:Fr→Hp→R):R:=
 bif clr then k (putA fr dst v) H else frA 3 v fun v=>frS (putA fr dst v) fun fr=>k fr H
def guardK {R:Type} (u:Bool) (fr:Fr) (s:Nat) (want:Bool) (run skip:Fr→Option R):AV→Option R
 | .ub b=>bif u then(bif b then(bif want then run (fr.set s (.sc (.bool true)))else skip (fr.set s (.sc (.bool true))))
    else(bif want then skip (fr.set s (.sc (.bool false)))else run (fr.set s (.sc (.bool false)))))else none
 | .sc (.bool b)=>bif b then(bif want then run (fr.set s (.sc (.bool true)))else skip (fr.set s (.sc (.bool true))))
    else(bif want then skip (fr.set s (.sc (.bool false)))else run (fr.set s (.sc (.bool false))))
 | .sc (.tuple _)=>skip fr
 |_=>none
def slotOf (ops:Array Oper) (j:Nat):Nat:=((ops[j]?).bind (·.dst)).getD 1000000
def isGuard (ops:Array Oper):Option Nat→Bool
 |some d=>ops.toList.any fun o=>match o.guard with|some (j,_)=>Nat.beq (slotOf ops j) d|none=>false
 |none=>false
def refA {R:Type} (fl:Bool) (x:AV) (k:AV→Option R):Option R:=
 bif fl then(match x with
  | .ub b=>bif b then k (.sc (.bool true))else k (.sc (.bool false))
  |x=>k x)else k x
def evOps {R:Type} (u:Bool) (env:Env) (r:Rec) (ops:Array Oper) (k:Fr→Hp→Option R):List Oper→Fr→Hp→Option R
 | [],fr,H=>k fr H
 |o::os,fr,H=>
  match o.guard with
  |none=>opK env r fr H o.type o.op fun p=>refA (!u&&isGuard ops o.dst) p.1 fun v=>putK env.clr fr o.dst v p.2 (evOps u env r ops k os)
  |some (j,want)=>
   match(ops[j]?).bind (·.dst)with
   |none=>none
   |some s=>
    guardK u fr s want
     (fun fr=>opK env r fr H o.type o.op fun p=>refA (!u&&isGuard ops o.dst) p.1 fun v=>putK env.clr fr o.dst v p.2 (evOps u env r ops k os))
     (fun fr=>putK env.clr fr o.dst uv H (evOps u env r ops k os))
     (fr.getD s .undef)
def isMapT (P:Program) (T:TypeId):Bool:=
 match P.underlying T with
 |some (.map _ _)=>true
 |_=>false
def noMapT (P:Program):List TypeId→Bool
 | [T]=>(match P.underlying T with
   |some (.slice _)=>true
   |some .string=>true
   |some (.array _ _)=>true
   |_=>false)
 |_=>false
def cls (env:Env):Op→Nat
 | .move _=>0
 | .assign _=>0
 | .pick _ _ _=>0
 | .build _ _=>0
 | .binOp _ _ _ _ _=>0
 | .unOp _ _ _=>0
 | .convert S _ _=>bif isSlT env.P S then 1 else 0
 | .makeFunc _ _ _=>0
 | .slice _ _ _ _ _=>1
 | .fieldAddr _ _ _=>0
 | .field _ _ _=>0
 | .indexAddr _ x _=>(match x with | .global _=>1|_=>0)
 | .index _ _ _=>0
 | .extract _ _=>0
 | .nilCheck _=>0
 | .load _ _=>1
 | .lookup _ _ _ _=>1
 | .alloc _=>2
 | .box _ _=>2
 | .buildSlice _ _ _=>2
 | .makeMap _ _=>2
 | .makeSlice _ _ _=>2
 | .range T _=>bif isMapT env.P T then 3 else 2
 | .call c=>match c.callee with
   | .value (.func f)=>bif env.isPure f then 1 else 3
   | .builtin .len=>bif noMapT env.P c.argTypes.toList then 0 else 1
   | .builtin .cap=>0
   | .builtin .min=>0
   | .builtin .max=>0
   |_=>3
 |_=>3
def opTmps (o:Oper):List Nat:=o.op.operands.toList.filterMap fun | .tmp t=>some t|_=>none
def namesOf (ops:Array Oper) (o:Oper):List Nat:=
 o.dst.toList++(match o.guard with|some (j,_)=>[slotOf ops j]|none=>[])++opTmps o
def writesIn (o:Oper) (ns:List Nat):Bool:=match o.dst with|some d=>ns.elem d|none=>false
def isLd:Op→Bool
 | .load _ (.tmp _)=>true
 | .slice _ (.tmp _) _ _ _=>true
 |_=>false
def isSt:Op→Bool
 | .store _ (.tmp _) _=>true
 |_=>false
def freeOk (env:Env) (ops:Array Oper) (x y:Oper):Bool:=
 !(writesIn x (namesOf ops y)) && !(writesIn y (namesOf ops x)) &&
 (let a:=cls env x.op;let b:=cls env y.op
  (Nat.ble a 2&&Nat.ble b 2)||(Nat.beq a 0)||(Nat.beq b 0) ||
  (isLd x.op&&Nat.beq b 3)||(Nat.beq a 3&&isLd y.op)||(Nat.beq a 2&&isSt y.op))
def addAll (s:List Nat):List Nat→List Nat
 | []=>s
 |x::xs=>addAll (bif s.elem x then s else x::s) xs
def predsOf (acc:List (List Nat)) (s:List Nat):List Edge→List Nat
 | []=>s
 |e::es=>predsOf acc (bif Region.binds .any e then addAll s (e.on::acc.getD e.on [])else s) es
def predsL (acc:List (List Nat)):List Oper→List (List Nat)
 | []=>acc
 |o::os=>predsL (acc ++ [predsOf acc [] o.after.toList]) os
def preds (ops:Array Oper):List (List Nat):=predsL [] ops.toList
def pairOk (env:Env) (ops:Array Oper) (pr:List (List Nat)) (i j:Nat):Bool:=
 (pr.getD j []).elem i||(match ops[i]?,ops[j]? with|some x,some y=>freeOk env ops x y|_,_=>false)
def edgesBack (ops:Array Oper):Bool:=
 (List.range ops.size).all fun j=>match ops[j]? with
  |some o=>o.after.toList.all fun e=> !(Region.binds .any e)||Nat.blt e.on j
  |none=>true
def drawOk (env:Env) (ops:Array Oper):Bool:=
 env.P.follows .mixedOrders&&edgesBack ops&&(let pr:=preds ops;(List.range ops.size).all fun j=>(List.range j).all fun i=>pairOk env ops pr i j)
def effsO (env:Env) (ops:Array Oper) (e:Nat):List Nat:=(List.range e).filter fun f=>match ops[f]? with|some x=>Nat.beq (cls env x.op) 3|none=>false
def isAl:Op→Bool
 | .alloc _=>true
 |_=>false
def isLate (env:Env) (ops:Array Oper) (e:Nat):Bool:=
 match ops[e]? with
 |some o=>isAl o.op&&o.guard.isNone&&o.dst.isSome&&o.after.toList.all (fun x=> !(Region.binds .any x)) && !(effsO env ops e).isEmpty
 |none=>false
def lateI (env:Env) (ops:Array Oper):Option Nat:=(List.range ops.size).find? (isLate env ops)
def waitFor (o:Oper) (l:List Nat):Oper:={o with after:=⟨o.after.toList++l.map fun f=>⟨f, .data⟩⟩}
def fixO (env:Env) (ops:Array Oper):Array Oper:=
 match lateI env ops with
 |none=>ops
 |some e=>match ops[e]? with
  |some o=>⟨ops.toList.set e (waitFor o (effsO env ops e))⟩
  |none=>ops
def waits1 (o:Oper) (f:Nat):Bool:=o.after.toList.any fun x=>Region.binds .any x&&Nat.beq x.on f
def fixK (env:Env) (ops:Array Oper) (e s j:Nat):Bool:=
 match ops[j]? with
 |some o=>Nat.beq j e||((!(waits1 o e)||(effsO env ops e).all (waits1 o)) && !(o.dst==some s))
 |none=>true
def fixOk (env:Env) (ops:Array Oper):Bool:=
 match lateI env ops with
 |none=>true
 |some e=>match(ops[e]?).bind (·.dst)with
  |some s=>(List.range ops.size).all (fixK env ops e s)
  |none=>false
def lateS (env:Env) (ops:Array Oper):Option Nat:=(lateI env ops).bind fun e=>(ops[e]?).bind (·.dst)
def clrE (env:Env) (ops:Array Oper) (fr:Fr):Fr:=
 match lateS env ops with
 |some s=>fr.set s .undef
 |none=>fr
def vEq:Value→Value→Bool
 | .bool a, .bool b=>a==b
 | .int k a, .int k' b=>decide (k=k')&&decide (a=b)
 | .string a, .string b=>decide (a.data.toList=b.data.toList)
 | .pointer none, .pointer none=>true
 | .pointer (some a), .pointer (some b)=>decide (a=b)
 | .slice none l c, .slice none l' c'=>Nat.beq l l'&&Nat.beq c c'
 | .map none, .map none=>true
 | .nilFunc, .nilFunc=>true
 | .nilIface, .nilIface=>true
 |_,_=>false
def allEq {α:Type} (f:α→α→Bool):List α→List α→Bool
 | [],[]=>true
 |x::xs,y::ys=>f x y&&allEq f xs ys
 |_,_=>false
def avEq:Nat→AV→AV→Bool
 |0,_,_=>false
 |n+1,x,y=>
  match x,y with
  | .undef, .undef=>true
  | .sc v, .sc v'=>vEq v v'
  | .ptr i o, .ptr i' o'=>Nat.beq i i'&&Nat.beq o o'
  | .sl i z o l, .sl i' z' o' l'=>Nat.beq i i'&&Nat.beq z z'&&(Nat.beq o o'&&Nat.beq l l')
  | .map i, .map i'=>Nat.beq i i'
  | .func f a b, .func f' a' b'=>Nat.beq f f'&&(allEq (avEq n) a a'&&allEq (avEq n) b b')
  | .agg a, .agg b=>allEq (avEq n) a b
  | .tup a, .tup b=>allEq (avEq n) a b
  | .eptr a, .eptr b=>allEq (avEq n) a b
  | .esl a, .esl b=>allEq (allEq (avEq n)) a b
  | .e0, .e0=>true
  |_,_=>false
def blkEq:Option Blk→Option Blk→Bool
 |some (.cells a),some (.cells b)=>allEq (avEq 6) a b
 |some (.map a),some (.map b)=>allEq (fun p q=>vEq p.1 q.1&&avEq 6 p.2 q.2) a b
 |_,_=>false
def andL:List Bool→Bool
 | []=>true
 | [b]=>b
 |b::bs=>qand b (andL bs)
def valO:Option (List Bool)→Bool
 |some l=>andL l
 |none=>false
def ofB (b:Bool):Option (List Bool):=bif b then some []else none
def andO:Option (List Bool)→Option (List Bool)→Option (List Bool)
 |some a,some b=>some (a++b)
 |_,_=>none
def allO {α:Type} (f:α→Option (List Bool)):List α→Option (List Bool)
 | []=>some []
 |x::xs=>andO (f x) (allO f xs)
def avEqS (x y:AV):Option (List Bool):=
 match x,y with
 | .ui k n, .ui k' m=>bif decide (k=k')then some [qcmp .eql n m]else none
 | .ub a, .ub b=>some [qeqB a b]
 | .rows T d, .rows T' d'=>bif Nat.beq T T' then some [qeqD d d']else none
 | .dat T d, .dat T' d'=>bif Nat.beq T T' then some [qeqD d d']else none
 | .edat T d, .edat T' d'=>bif Nat.beq T T' then some [qeqD d d']else none
 | .osl i T m, .osl i' T' m'=>bif Nat.beq i i'&&Nat.beq T T' then some [qcmp .eql m m']else none
 |x,y=>ofB (avEq 6 x y)
def eqsO:List AV→List AV→Option (List Bool)
 | [],[]=>some []
 |x::xs,y::ys=>andO (avEqS x y) (eqsO xs ys)
 |_,_=>none
def blkEqO:Option Blk→Option Blk→Option (List Bool)
 |some (.cells a),some (.cells b)=>eqsO a b
 |some (.dat T d),some (.dat T' d')=>bif Nat.beq T T' then some [qeqD d d']else none
 |some (.lst T d),some (.lst T' d')=>bif Nat.beq T T' then some [qeqD d d']else none
 |some (.mp k v d),some (.mp k' v' d')=>bif Nat.beq k k'&&Nat.beq v v' then some [qeqD d d']else none
 |x,y=>ofB (blkEq x y)
def blkOfSl:AV→List Nat
 | .sl i _ _ _=>[i]
 | .osl i _ _=>[i]
 |_=>[]
def chgAppend (P:Program) (H:Hp):List AV→List TypeId→Option (List Nat)
 | [s,x],[T,_]=>(match P.underlying T with
   |some (.slice e)=>if(tchL H expoDepth (srcCells e H x++srcCells e H s)).all (fun t=>Nat.blt t H.n)=true then some (blkOfSl s++tchL H expoDepth (srcCells e H x++srcCells e H s))else none
   |_=>none)
 |_,_=>none
def chgStore:AV→Option (List Nat)
 | .ptr c _=>some [c]
 | .oel c _ _ _=>some [c]
 |_=>none
def chgFrz (env:Env) (f:FuncId) (H:Hp) (args:List AV):Option (List Nat):=
 if(!(env.isPure f)&&env.isFrz f&&(tchL H expoDepth args).all (fun t=>Nat.blt t H.n))=true then some (tchL H expoDepth args)else none
def chg (env:Env) (fr:Fr) (H:Hp):Op→Option (List Nat)
 | .store _ a _=>chgStore (opd fr a)
 | .call c=>(match c.callee with
   | .builtin .append=>chgAppend env.P H (c.args.toList.map (opd fr)) c.argTypes.toList
   | .value (.func f)=>chgFrz env f H (c.args.toList.map (opd fr))
   |_=>none)
 |_=>none
def keepK (env:Env) (x:Op) (fr:Fr) (H H':Hp) (i:Nat):Bool:=
 Nat.ble (cls env x) 1||(Nat.blt i H.n&&(Nat.beq (cls env x) 2||(match chg env fr H x with|some ts=> !(ts.elem i)|none=>false)||valO (blkEqO (H.get i) (H'.get i))))
def rangeOk (env:Env) (ops:Array Oper) (S:List (Fr×Hp)) (i a b:Nat):Bool:=
 (List.range (b-a)).all fun d=>match ops[a+d]?,S[a+d]?,S[a+d+1]? with
  |some o,some p,some q=>keepK env o.op p.1 p.2 q.2 i
  |_,_,_=>false
def glOk (S:List (Fr×Hp)) (l a b:Nat):Bool:=
 (List.range (b+1-a)).all fun d=>match S[a+d]?,S[l]? with
  |some p,some q=>p.2.gl==q.2.gl
  |_,_=>false
def ldKeep (env:Env) (ops:Array Oper) (S:List (Fr×Hp)) (l a b:Nat):Op→Bool
 | .load _ (.tmp s)=>(match(S[l]?).map (fun(p:Fr×Hp)=>p.1.getD s .undef)with
   |some (.ptr i _)=>rangeOk env ops S i a b
   |some (.eptr _)=>true
   |some (.edat _ _)=>true
   |some (.sc (.pointer (some ⟨_,_,none⟩)))=>glOk S l a b
   |_=>false)
 | .slice _ (.tmp s) _ _ _=>(match(S[l]?).map (fun(p:Fr×Hp)=>p.1.getD s .undef)with
   |some (.ptr _ _)=>false
   |some _=>true
   |none=>false)
 |_=>false
def stKeep (S:List (Fr×Hp)) (i j:Nat):Op→Bool
 | .store _ (.tmp s) _=>(match(S[j]?).map (fun(p:Fr×Hp)=>p.1.getD s .undef),S[i]? with
   |some (.ptr c _),some q=>Nat.blt c q.2.n
   |_,_=>false)
 |_=>false
def dynPair (env:Env) (pr:List (List Nat)) (ops:Array Oper) (S:List (Fr×Hp)) (i j:Nat):Bool:=
 (pr.getD j []).elem i||(match ops[i]?,ops[j]? with
  |some x,some y=>
   bif isLd x.op&&Nat.beq (cls env y.op) 3 then ldKeep env ops S i i (j+1) x.op
   else bif Nat.beq (cls env x.op) 3&&isLd y.op then ldKeep env ops S j i j y.op
   else bif Nat.beq (cls env x.op) 2&&isSt y.op then stKeep S i j y.op else true
  |_,_=>true)
def drawDyn (env:Env) (ops:Array Oper) (S:List (Fr×Hp)):Bool:=
 let pr:=preds ops
 (List.range ops.size).all fun j=>(List.range j).all fun i=>dynPair env pr ops S i j
def evOpsT {R:Type} (env:Env) (r:Rec) (ops:Array Oper) (k:List (Fr×Hp)→Fr→Hp→Option R):List Oper→List (Fr×Hp)→Fr→Hp→Option R
 | [],log,fr,H=>k log fr H
 |o::os,log,fr,H=>evOps false env r ops (fun fr' H'=>evOpsT env r ops k os ((fr,H)::log) fr' H') [o] fr H
def mrgA (b:Bool) (x y:AV):AV:=
 match x,y with
 | .ub p, .ub q=> .ub (qiteB b p q)
 | .ub p, .sc (.bool q)=> .ub (qiteB b p q)
 | .sc (.bool p), .ub q=> .ub (qiteB b p q)
 | .sc (.bool p), .sc (.bool q)=>bif p==q then .sc (.bool p)else .ub (qiteB b p q)
 | .ui k n, .ui k' m=>if k=k' then .ui k (qiteI b n m)else .undef
 | .ui k n, .sc (.int k' m)=>if k=k' then .ui k (qiteI b n m)else .undef
 | .sc (.int k n), .ui k' m=>if k=k' then .ui k (qiteI b n m)else .undef
 | .sc (.int k n), .sc (.int k' m)=>if k=k' then(if n=m then .sc (.int k n)else .ui k (qiteI b n m))else .undef
 | .us s, .us t=> .us (qiteS b s t)
 | .us s, .sc (.string t)=> .us (qiteS b s t)
 | .sc (.string s), .us t=> .us (qiteS b s t)
 | .sc (.string s), .sc (.string t)=> .us (qiteS b s t)
 | .rows T d, .rows T' d'=>bif Nat.beq T T' then .rows T (qiteD b d d')else .undef
 | .dat T d, .dat T' d'=>bif Nat.beq T T' then .dat T (qiteD b d d')else .undef
 | .edat T d, .edat T' d'=>bif Nat.beq T T' then .edat T (qiteD b d d')else .undef
 | .ptr i o, .ptr i' o'=>bif Nat.beq i i'&&Nat.beq o o' then .ptr i o else .undef
 |_,_=> .undef
def mrgL (ds:List Nat) (b:Bool):Nat→List AV→List AV→List AV→List AV
 |i,p::ps,x::xs,y::ys=>(bif ds.elem i then mrgA b x y else p)::mrgL ds b (i+1) ps xs ys
 |_,_,_,_=>[]
def mrgO (b:Bool) (x y:List Bool):List Bool:=
 match x,y with
 | [],[]=>[]
 |x,y=>[qiteB b (andL x) (andL y)]
def isPickOn (s:Nat):Op→Bool
 | .pick (.tmp t) _ _=>Nat.beq t s
 |_=>false
def splitPick (s:Nat):List Oper→Option (List Oper×List Oper)
 | []=>none
 |o::os=>bif isPickOn s o.op then some ([o],os)else(splitPick s os).map fun q=>(o::q.1,q.2)
def dstsL:List Oper→List Nat
 | []=>[]
 |o::os=>(match o.dst with|some d=>[d]|none=>[])++dstsL os
def mOps (env:Env) (r:Rec) (ops:Array Oper) (H:Hp):Nat→List Oper→Fr→Option (Fr×List Bool)
 |0,_,_=>none
 |_+1,[],fr=>some (fr,[])
 |n+1,o::os,fr=>
  match o.guard with
  |none=>(evOp0 env r fr H o.type o.op).bind fun p=>(mOps env r ops H n os (putA fr o.dst p.1)).bind fun q=>some (q.1,obl env fr H o.op++q.2)
  |some (j,want)=>
   match(ops[j]?).bind (·.dst)with
   |none=>none
   |some s=>
    match fr.getD s .undef with
    | .sc (.bool b)=>bif b==want then(evOp0 env r fr H o.type o.op).bind fun p=>(mOps env r ops H n os (putA fr o.dst p.1)).bind fun q=>some (q.1,obl env fr H o.op++q.2)
       else mOps env r ops H n os (putA fr o.dst uv)
    | .sc (.tuple _)=>mOps env r ops H n os (putA fr o.dst uv)
    | .ub b=>(splitPick s (o::os)).bind fun c=>
       (mOps env r ops H n c.1 (fr.set s (.sc (.bool true)))).bind fun x=>(mOps env r ops H n c.1 (fr.set s (.sc (.bool false)))).bind fun y=>
       (mOps env r ops H n c.2 (mrgL (dstsL c.1) b 0 fr x.1 y.1)).bind fun z=>some (z.1,mrgO b x.2 y.2++z.2)
    |_=>none
def quietOps (env:Env) (ops:Array Oper):Bool:=ops.toList.all fun o=>Nat.ble (cls env o.op) 1
def quiet (env:Env):Code→Bool
 | .skip=>true
 | .region _ ops draw=> !draw&&quietOps env ops
 | .seq a b=>quiet env a&&quiet env b
 | .cond _ a b=>quiet env a&&quiet env b
 |_=>false
def dstsC:Code→List Nat
 | .region _ ops _=>dstsL ops.toList
 | .seq a b=>dstsC a++dstsC b
 | .cond _ a b=>dstsC a++dstsC b
 |_=>[]
def evQ (env:Env) (r:Rec) (fuel:Nat) (H:Hp):Code→Fr→Option (Fr×List Bool)
 | .skip,fr=>some (fr,[])
 | .region _ ops _,fr=>mOps env r ops H fuel ops.toList fr
 | .seq a b,fr=>(evQ env r fuel H a fr).bind fun x=>(evQ env r fuel H b x.1).bind fun y=>some (y.1,x.2++y.2)
 | .cond c a b,fr=>
   match opd fr c with
   | .sc (.bool t)=>bif t then evQ env r fuel H a fr else evQ env r fuel H b fr
   | .ub t=>(evQ env r fuel H a fr).bind fun x=>(evQ env r fuel H b fr).bind fun y=>some (mrgL (dstsC a++dstsC b) t 0 fr x.1 y.1,mrgO t x.2 y.2)
   |_=>none
 |_,_=>none
structure RW where
 rd:List Nat
 wr:List Nat
def RW.read (x:RW) (t:Nat):RW:=bif x.rd.elem t||x.wr.elem t then x else⟨t::x.rd,x.wr⟩
def RW.write (x:RW) (t:Nat):RW:=bif x.rd.elem t||x.wr.elem t then x else⟨x.rd,t::x.wr⟩
def RW.opd (x:RW):Operand→RW
 | .tmp t=>x.read t
 |_=>x
def RW.opds (x:RW):List Operand→RW
 | []=>x
 |o::os=>(x.opd o).opds os
def RW.dst (x:RW):Option Nat→RW
 |some d=>x.write d
 |none=>x
def RW.ops (ops:Array Oper):RW→List Oper→RW
 |x,[]=>x
 |x,o::os=>RW.ops ops (((match o.guard with|some (j,_)=>x.read (slotOf ops j)|none=>x).opds o.op.operands.toList).dst o.dst) os
def RW.code (x:RW):Code→RW
 | .region _ ops _=>RW.ops ops x ops.toList
 | .seq a b=>(x.code a).code b
 | .cond c a b=>((x.opd c).code a).code b
 | .block _ c=>x.code c
 | .loop c=>x.code c
 | .scope c=>x.code c
 |_=>x
def tmpsOf (c:Code):List Nat:=((⟨[],[]⟩:RW).code c).wr
def clearAll (fr:Fr):List Nat→Fr
 | []=>fr
 |t::ts=>clearAll (fr.set t .undef) ts
def below (L:Nat):Nat→AV→Bool
 |0,_=>false
 |n+1,x=>
  match x with
  | .ptr i _=>decide (i<L)
  | .sl i _ _ _=>decide (i<L)
  | .map i=>decide (i<L)
  | .osl i _ _=>decide (i<L)
  | .oel i _ _ _=>decide (i<L)
  | .nx _ _ _=>false
  | .func _ a b=>a.all (below L n)&&b.all (below L n)
  | .agg cs=>cs.all (below L n)
  | .tup cs=>cs.all (below L n)
  |_=>true
def blkBelow (L:Nat):Option Blk→Bool
 |some (.cells cs)=>cs.all (below L expoDepth)
 |some (.map es)=>es.all (fun e=>below L expoDepth e.2)
 |some (.dat _ _)=>true
 |some (.lst _ _)=>true
 |some (.siter _ _ _)=>true
 |some (.miter _ _)=>true
 |some (.mp _ _ _)=>true
 |none=>true
def gcA (L:Nat) (fr:Fr) (H:Hp):Hp:=
 bif Nat.ble H.n L then H else
 bif fr.all (below L expoDepth)&&(H.trunc L).bs.all (blkBelow L)then H.trunc L else H
def loopN {R:Type} (clr:Bool) (ts:List Nat) (L:Nat) (step:Fr→Hp→(Fr→Hp→Option R)→Option R):Nat→Fr→Hp→Option R
 |0,_,_=>none
 |n+1,fr,H=>
  bif clr then
   (let fr:=clearAll fr ts;step fr (gcA L fr H) (loopN clr ts L step n))
  else step fr H (loopN clr ts L step n)
def jumpN {R:Type} (clr:Bool) (ts:List Nat) (L:Nat) (c:Code) (kg:Nat→Fr→Hp→Option R) (step:Nat→Fr→Hp→(Nat→Fr→Hp→Option R)→Option R):Nat→Nat→Fr→Hp→Option R
 |0,_,_,_=>none
 |n+1,l,fr,H=>
  bif (findLabel c l).isSome then
   (bif clr then
    (let fr:=clearAll fr ts;step l fr (gcA L fr H) (jumpN clr ts L c kg step n))
   else step l fr H (jumpN clr ts L c kg step n))
  else kg l fr H
def ev {R:Type} (env:Env) (r:Rec) (fuel:Nat):Option Nat→Code→Fr→Hp→(Fr→Hp→Option R)→(Nat→Fr→Hp→Option R)→(Fr→Hp→Option R)→(Nat→Fr→Hp→Option R)→Option R
 |none, .skip,fr,H,kn,_,_,_=>kn fr H
 |none, .label _,fr,H,kn,_,_,_=>kn fr H
 |none, .ret,fr,H,_,_,kr,_=>kr fr H
 |none, .exit id,fr,H,_,kx,_,_=>kx id fr H
 |none, .goto l,fr,H,_,_,_,kg=>kg l fr H
 |none, .seq a b,fr,H,kn,kx,kr,kg=>
  bif env.clr&&quiet env a then
   (match evQ env r 400 H a fr with
    |some q=>guardAll (ev env r fuel none b q.1 H kn kx kr kg) q.2
    |none=>ev env r fuel none a fr H (fun fr H=>ev env r fuel none b fr H kn kx kr kg) kx kr kg)
  else ev env r fuel none a fr H (fun fr H=>ev env r fuel none b fr H kn kx kr kg) kx kr kg
 |none, .cond c a b,fr,H,kn,kx,kr,kg=>
  match opd fr c with
  | .sc (.bool t)=>bif t then ev env r fuel none a fr H kn kx kr kg else ev env r fuel none b fr H kn kx kr kg
  | .ub t=>bif t then ev env r fuel none a fr H kn kx kr kg else ev env r fuel none b fr H kn kx kr kg
  |_=>none
 |none, .block id c,fr,H,kn,kx,kr,kg=>ev env r fuel none c fr H kn (fun i fr H=>bif Nat.beq i id then kn fr H else kx i fr H) kr kg
 |none, .loop c,fr,H,_,kx,kr,kg=>match env.lp env.n0 c with
  |some g=>(g fr H).go (fun _ _=>none) kx kr kg
  |none=>loopN env.clr (tmpsOf c) H.n (fun fr H kn=>ev env r fuel none c fr H kn kx kr kg) fuel fr H
 |none, .scope c,fr,H,kn,kx,kr,kg=>
  ev env r fuel none c fr H kn kx kr (jumpN env.clr (tmpsOf c) H.n c kg (fun l fr H kg=>ev env r fuel (some l) c fr H kn kx kr kg) fuel)
 |none, .region _ ops draw,fr,H,kn,_,_,_=>
  bif draw then(bif drawOk env (fixO env ops)&&fixOk env ops then evOpsT env r (fixO env ops) (fun log fr H=>bif drawDyn env (fixO env ops) (log.reverse ++ [(fr,H)])then kn fr H else none) (fixO env ops).toList [] (clrE env ops fr) H else none)
  else evOps true env r ops kn ops.toList fr H
 |some l, .seq a b,fr,H,kn,kx,kr,kg=>
  bif (findLabel a l).isSome then ev env r fuel (some l) a fr H (fun fr H=>ev env r fuel none b fr H kn kx kr kg) kx kr kg
  else ev env r fuel (some l) b fr H kn kx kr kg
 |some l, .label l',fr,H,kn,_,_,_=>bif Nat.beq l' l then kn fr H else none
 |_,_,_,_,_,_,_,_=>none
def resA (P:Program) (fr:Fr) (H:Hp):ResultVar→Option AV
 | .tmp t=>fr[t]?
 | .cell a T=>(fr[a]?).bind fun x=>bif (atObl H x).isEmpty then loadA P H T x else none
def retA (P:Program) (rs:List ResultVar) (fr:Fr) (H:Hp):Option (AV×Hp):=
 match rs with
 | [r]=>(resA P fr H r).bind fun v=>some (v,H)
 |rs=>(mapO (resA P fr H) rs).bind fun vs=>some (.tup vs,H)
def frame0 (args:List AV) (n:Nat):Fr:=args++List.replicate (n-args.length) uv
end
end Go.AM
