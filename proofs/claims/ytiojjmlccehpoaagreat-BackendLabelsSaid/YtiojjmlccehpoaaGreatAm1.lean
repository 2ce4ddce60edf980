/-
  The abstract machine: abstract values, an abstract heap, and an evaluator of the model's code over them. No program is named here. That what it computes is what the model does is proved in the text of the name Am2.
-/
import Derived.Tactics
import Derived.Test.YtiojjmlccehpoaaGreatProg
set_option linter.defProp false
set_option linter.unusedSimpArgs false
set_option linter.unusedVariables false
namespace Go.AM
def aj.{u}:=@cond_true.{u}
def aT.{u,v}:=@Option.bind_eq_some_iff.{u,v}
def aR:=@Nat.eq_of_beq_eq_true
def aN.{u}:=@Option.some.injEq.{u}
def bf.{u}:=@List.getD_cons_zero.{u}
def aI.{u}:=@cond_false.{u}
def bc.{u,v}:=@Option.bind_some.{u,v}
def bn:=@Bool.and_eq_true
def be:=@decide_true
def bj:=@Nat.le_refl
def bt.{u}:=@List.getD_cons_succ.{u}
def bp:=@Go.run_underlying
def bM.{u}:=@List.length_append.{u}
def cq.{u}:=@List.getElem?_eq_getElem.{u}
def bl:=@decide_false
def bV.{u}:=@List.all_eq_true.{u}
def cU.{u}:=@List.getElem?_eq_some_iff.{u}
def b7.{u}:=@List.getElem_mem.{u}
def b8:=@Int.natCast_zero
def cl:=@decide_eq_true_eq
def aV.{u}:=@if_false.{u}
def cn.{u}:=@List.length_cons.{u}
def cN.{u}:=@Array.length_toList.{u}
def bW.{u,v}:=@List.map_cons.{u,v}
def bX:=@Bool.not_true
def dj.{u,v}:=@Option.map_eq_some_iff.{u,v}
def aX.{u}:=@if_true.{u}
def cH.{u,v}:=@Option.map_some.{u,v}
def cy.{u}:=@List.mem_cons.{u}
def cV.{u}:=@List.mem_append.{u}
def cZ.{u}:=@List.length_nil.{u}
def eP.{u}:=@List.take_of_length_le.{u}
def dH.{u}:=@List.append_assoc.{u}
def cO.{u,v}:=@Prod.mk.injEq.{u,v}
def dL:=@Go.Result.andThen_ok
def eQ:=@Nat.mul_le_mul_right
def dk:=@Bool.not_false
def gh.{u}:=@List.length_eq_zero_iff.{u}
def dq:=@Go.Sem.run_bind
def fj.{u}:=@List.length_take.{u}
def ld.{u}:=@List.getElem?_append_right.{u}
def lf.{u}:=@Array.getElem?_eq_some_iff.{u}
def fP:=@Int.toNat_natCast
def fx.{u}:=@List.not_mem_nil.{u}
def lh.{u}:=@Array.getElem?_eq_getElem.{u}
def iG.{u}:=@List.getElem?_eq_none.{u}
def gi.{u}:=@List.ext_getElem?.{u}
def gO.{u}:=@List.getElem?_take.{u}
def d9:=@Nat.zero_add
def fy:=@Bool.eq_iff_iff
def iH.{u}:=@List.mem_of_getElem?.{u}
def lC.{u}:=@List.drop_eq_getElem_cons.{u}
def hR:=@Bool.false_eq_true
def fQ.{u}:=@List.append_nil.{u}
def ne.{u}:=@List.getD_eq_getElem?_getD.{u}
def hY.{u}:=@List.size_toArray.{u}
def hZ.{u}:=@List.getElem?_set.{u}
def ia.{u,v}:=@List.getElem?_map.{u,v}
def gj.{u}:=@List.nil_append.{u}
def ng.{u}:=@List.getElem?_append_left.{u}
def lE.{u}:=@List.drop_of_length_le.{u}
def ib.{u}:=@List.length_drop.{u}
def gP.{u,v}:=@List.length_map.{u,v}
def jF.{u}:=@List.getElem?_drop.{u}
def fR.{u}:=@List.sum_cons.{u}
def ei:=@Nat.blt_eq
def vj.{u}:=@List.take_succ_eq_append_getElem.{u}
def fS:=@Nat.succ_mul
def fT:=@Go.Sem.run_pure
def li.{u}:=@List.mem_cons_self.{u}
def lF.{u,v}:=@List.map_congr_left.{u,v}
def jG.{u}:=@Option.getD_some.{u}
def lj:=@Bool.not_eq_true'
def lk.{u,v}:=@List.flatMap_cons.{u,v}
def nh.{u}:=@List.mem_cons_of_mem.{u}
def lG:=@Nat.lt_of_lt_of_le
def iI:=@List.mem_range
def sd.{u}:=@List.getElem?_cons_succ.{u}
def ic.{u,v}:=@List.mem_map.{u,v}
def ll.{u,v}:=@List.map_append.{u,v}
def lH.{u}:=@List.cons_append.{u}
def A7.{u}:=@List.take_append_of_le_length.{u}
def gk.{u}:=@beq_iff_eq.{u}
def lI:=@Bool.or_eq_true
def A8.{u}:=@Array.getD_eq_getD_getElem?.{u}
def vk:=@Int.eq_ofNat_of_zero_le
def vm.{u}:=@List.not_any_eq_all_not.{u}
def se.{u}:=@List.getElem?_of_mem.{u}
def jH.{u,v}:=@List.map_nil.{u,v}
def lm:=@Bool.false_or
def oA.{u}:=@Array.size_append.{u}
def sf.{u}:=@Array.toList_append.{u}
def fz:=@or_false
def ni.{u}:=@List.find?_cons.{u}
def A9.{u}:=@List.getElem?_take_of_lt.{u}
def lq:=@Nat.add_zero
def FS.{u}:=@Array.getElem?_setIfInBounds.{u}
def si.{u}:=@List.flatten_cons.{u}
def nj:=@Nat.add_assoc
def nk.{u}:=@List.all_cons.{u}
def lJ:=@Go.Value.bool.injEq
def lK.{u,v}:=@List.mem_flatMap.{u,v}
def qk.{u}:=@List.length_replicate.{u}
def ql.{u}:=@Array.getElem?_toList.{u}
def C5.{u}:=@Array.getElem?_setIfInBounds_ne.{u}
def vn.{u}:=@List.getElem?_cons_zero.{u}
def lL.{u}:=@List.drop_zero.{u}
def nH:=@Bool.not_eq_true
def vo:=@Nat.le_of_ble_eq_true
def nI:=@Int.natCast_one
def lM:=@Bool.true_and
def vp.{u}:=@List.getElem?_set_ne.{u}
def kq:=@Nat.add_mul
def nJ.{u}:=@List.take_zero.{u}
def nK.{u}:=@Bool.cond_self.{u}
def lN:=@Bool.true_or
def qm:=@Nat.le_of_not_lt
def qn.{u}:=@List.any_eq_true.{u}
def nL:=@Go.Addr.mk.injEq
def qo.{u,v}:=@List.foldr_cons.{u,v}
def lO:=@Nat.zero_le
noncomputable section
noncomputable def PG:Program:=Go.Proofs.Tryz.prog
attribute [irreducible] PG
def veil {α:Type} (a:α):α:=Classical.choose (⟨a,rfl⟩:∃x,x=a)
theorem ai {α:Type} (a:α):veil a=a:=Classical.choose_spec (⟨a,rfl⟩:∃x,x=a)
inductive D where
 |int (n:Int)
 |bool (b:Bool)
 |str (s:ByteArray)
 |list (xs:List D)
 |agg (xs:List D)
 |other
abbrev uAC:=List D->Option (List D)
instance:Inhabited D:=⟨.other⟩
def fV:D->D->Bool:=veil fun a b=> @decide (a=b) (Classical.propDecidable _)
def D.toInt:D->Int | .int n=>n|_=>0
def D.toBool:D->Bool | .bool b=>b|_=>false
def D.toStr:D->ByteArray | .str s=>s|_=>ByteArray.empty
def D.toList:D->List D | .list xs=>xs|_=>[]
def D.fld (d:D) (j:Nat):D:=match d with | .agg xs=>xs.getD j .other|_=> .other
def D.get (d:D) (i:Int):D:=d.toList.getD i.toNat .other
def D.sub (d:D) (lo hi:Int):D:= .list ((d.toList.drop lo.toNat).take (hi-lo).toNat)
def D.len (d:D):Int:=d.toList.length
def D.inb (d:D) (i:Int):Bool:=decide (0≤i)&&decide (i<d.toList.length)
def gU (op:BinOp) (k:IntKind) (a b:Int):Int:=
 match op with
 | .add=>k.wrap (a+b)
 | .sub=>k.wrap (a-b)
 | .mul=>k.wrap (a*b)
 | .quo=>k.wrap (a.tdiv b)
 | .rem=>a.tmod b
 | .and=>k.wrap (BitVec.ofInt k.bits a &&& BitVec.ofInt k.bits b).toNat
 | .or=>k.wrap (BitVec.ofInt k.bits a ||| BitVec.ofInt k.bits b).toNat
 | .xor=>k.wrap (BitVec.ofInt k.bits a ^^^ BitVec.ofInt k.bits b).toNat
 | .andNot=>k.wrap (BitVec.ofInt k.bits a &&& ~~~ BitVec.ofInt k.bits b).toNat
 | .shl=>k.wrap (a*2^(min b.toNat k.bits))
 | .shr=>a.fdiv (2^(min b.toNat k.bits))
 |_=>0
def ef (op:BinOp) (a b:Int):Bool:=
 match op with
 | .eql=>a==b
 | .neq=>a != b
 | .lss=>decide (a<b)
 | .leq=>decide (a≤b)
 | .gtr=>decide (b<a)
 | .geq=>decide (b≤a)
 |_=>false
def vq (op:BinOp) (a b:ByteArray):Bool:=
 match op with
 | .eql=>a.toList==b.toList
 | .neq=> !(a.toList==b.toList)
 | .lss=>Op.bytesLess a.toList b.toList
 | .leq=>Op.bytesLess a.toList b.toList||a.toList==b.toList
 | .gtr=> !(Op.bytesLess a.toList b.toList||a.toList==b.toList)
 | .geq=> !(Op.bytesLess a.toList b.toList)
 |_=>false
def run1 (op:UnOp) (k:IntKind) (n:Int):Int:=
 match op with
 | .neg=>k.wrap (0-n)
 | .xor=>k.wrap (BitVec.ofInt k.bits (if k.signed then -1 else k.max) ^^^ BitVec.ofInt k.bits n).toNat
 |_=>0
def ah:D->Int:=veil D.toInt
def aQ:D->Bool:=veil D.toBool
def aB:D->ByteArray:=veil D.toStr
def aa:D->Nat->D:=veil D.fld
def ay:D->Int->D:=veil D.get
def dr:D->Int->Int->D:=veil D.sub
def ae:D->Int:=veil D.len
def aS:D->Int->Bool:=veil D.inb
def aM:BinOp->IntKind->Int->Int->Int:=veil gU
def ab:BinOp->Int->Int->Bool:=veil ef
def cI:BinOp->ByteArray->ByteArray->Bool:=veil vq
def qun:UnOp->IntKind->Int->Int:=veil run1
def bU:Bool->Bool:=veil Bool.not
def fA:IntKind->Int->Int:=veil IntKind.wrap
def fB:ByteArray->Int:=veil fun s=>(s.size:Int)
def qsubS:ByteArray->Int->Int->ByteArray:=veil fun s lo hi=>s.extract lo.toNat hi.toNat
def rmm (op:BinOp) (a b:Int):Int:=match op with | .lss=>if b<a then b else a|_=>if a<b then b else a
def qmm:BinOp->Int->Int->Int:=veil rmm
def ci:Bool->Bool->Bool:=veil fun a b=>a&&b
def Ba (s:ByteArray) (i:Int):Int:=(s.toList.getD i.toNat 0).toNat
def vt:ByteArray->Int->Int:=veil Ba
def NH (s:ByteArray) (i:Int):Bool:=decide (0≤i)&&decide (i<s.size)
def vv:ByteArray->Int->Bool:=veil NH
def AA:Bool->Bool->Bool:=veil fun a b=>a==b
def aw:Bool->Bool->Bool->Bool:=veil fun c a b=>bif c then a else b
def fC:Bool->Int->Int->Int:=veil fun c a b=>bif c then a else b
def FT:Bool->ByteArray->ByteArray->ByteArray:=veil fun c a b=>bif c then a else b
def D.app (x y:D):D:= .list (x.toList++y.toList)
def D.upd (d:D) (i:Int) (x:D):D:= .list (d.toList.set i.toNat x)
def bG:D->D->D:=veil D.app
def Qf:D->Int->D->D:=veil D.upd
def D.bytes (s:ByteArray):D:= .list (s.toList.map fun c=> .int c.toNat)
def J7:ByteArray->D:=veil D.bytes
def D.text (d:D):ByteArray:=d.toList.foldl (fun r x=>r.push (UInt8.ofNat x.toInt.toNat)) ByteArray.empty
def SL:D->ByteArray:=veil D.text
def J8:ByteArray->ByteArray->ByteArray:=veil fun a b=>a++b
def jm:ByteArray->ByteArray->Bool:=veil fun a b=>decide (((a.size+b.size:Nat):Int)≤9223372036854775807)
def Qg (n:Int) (z:Nat):Bool:=decide (0≤n)&&(decide (n*z≤140737488355328)&&decide (n≤4611686018427387904))
def cA:Int->Nat->Bool:=veil Qg
def J9:Int->D->D:=veil fun n d=> .list (List.replicate n.toNat d)
def FU:ByteArray->Int->Int:=veil fun s p=>((Utf8.decode s p.toNat).1:Int)
def qrw:ByteArray->Int->Int:=veil fun s p=>p+((Utf8.decode s p.toNat).2:Int)
def NI:Bool->D->D->D:=veil fun c a b=>bif c then a else b
inductive AV where
 |undef
 |sc (v:Value)
 |ptr (i off:Nat)
 |eptr (cs:List AV)
 |sl (i z off len:Nat)
 |esl (xs:List (List AV))
 |map (i:Nat)
 |emap (es:List (Value×AV))
 |func (f:FuncId) (first cap:List AV)
 |agg (cs:List AV)
 |tup (vs:List AV)
 |ui (k:IntKind) (n:Int)
 |ub (b:Bool)
 |us (s:ByteArray)
 |rows (T:TypeId) (d:D)
 |dat (T:TypeId) (d:D)
 |edat (T:TypeId) (d:D)
 |rowz (T:TypeId) (d:D)
 |osl (i:Nat) (T:TypeId) (m:Int)
 |oel (i:Nat) (T:TypeId) (n:Int) (off:Nat)
 |e0
 |anyI (k:IntKind)
 |nx (b:Bool) (x y:AV)
instance:Inhabited AV:=⟨.undef⟩
inductive Blk where
 |cells (cs:List AV)
 |map (es:List (Value×AV))
 |dat (T:TypeId) (d:D)
 |lst (T:TypeId) (d:D)
 |siter (s:ByteArray) (pos:Int) (kn:Bool)
 |miter (es:List (Value×AV)) (n:Nat)
 |mp (kT vT:TypeId) (d:D)
structure Hp where
 n:Nat
 bs:List (Option Blk)
 gl:Bool
abbrev Fr:=List AV
def GLT:List (Nat×List AV):=[(0,[.anyI .i64])]
def Hp.nil:Hp:=⟨0,[],false⟩
def Hp.fresh (H:Hp):Hp:=⟨0,[],H.gl⟩
def FV (g:Nat):List (Nat×List AV)->Option (List AV)
 | []=>none
 | (g',cs)::r=>bif Nat.beq g g' then some cs else FV g r
def Hp.glob (H:Hp) (g:Nat):Option (List AV):=bif H.gl then FV g GLT else none
def Hp.get (H:Hp) (i:Nat):Option Blk:=bif Nat.blt i H.n then(H.bs[H.n-1-i]?).join else none
def Hp.put (H:Hp) (i:Nat) (b:Option Blk):Hp:=⟨H.n,H.bs.set (H.n-1-i) b,H.gl⟩
def Hp.push (H:Hp) (b:Blk):Hp:=⟨H.n+1,some b::H.bs,H.gl⟩
def Hp.trunc (H:Hp) (L:Nat):Hp:=⟨L,H.bs.drop (H.n-L),H.gl⟩
def bR {α:Type} (P:Program):Sem α->Option α
 | .pure a=>some a
 | .program k=>bR P (k P)
 |_=>none
def bE {α β:Type} (f:α->Option β):List α->Option (List β)
 | []=>some []
 |x::xs=>(f x).bind fun y=>(bE f xs).bind fun ys=>some (y::ys)
def ofV:Value->AV
 | .agg cs=> .agg (cs.toList.map .sc)
 | .tuple vs=> .tup (vs.toList.map .sc)
 |v=> .sc v
def uv:AV:= .sc undef
def opd (fr:Fr):Operand->AV
 | .tmp t=>fr.getD t .undef
 | .const v=>ofV v
 | .global g=> .sc (.pointer (some ⟨g,0,none⟩))
 | .func f=> .func f [] []
def sz (P:Program) (T:TypeId):Option Nat:=(P.info? T).map (·.size)
def dO (c:TypeId->D->List AV) (d:D):Nat->List Field->List AV
 |_,[]=>[]
 |j,f::fs=>c f.type (aa d j)++dO c d (j+1) fs
def fD (c:D->List AV) (d:D):Nat->Nat->List AV
 |_,0=>[]
 |j,m+1=>c (aa d j)++fD c d (j+1) m
def bC:Nat->TypeId->D->List AV
 |0,_,_=>[]
 |n+1,T,d=>
  match PG.underlying T with
  |some (.int k)=>[.ui k (ah d)]
  |some .bool=>[.ub (aQ d)]
  |some .string=>[.us (aB d)]
  |some (.slice e)=>[.rows e d]
  |some (.struct fs)=>dO (bC n) d 0 fs.toList
  |some (.array m e)=>fD (bC n e) d 0 m
  |_=>[.undef]
def jI (P:Program) (lay:TypeId->Bool):Nat->List Field->Option Nat
 |off,[]=>some off
 |off,f::fs=>bif Nat.beq f.offset off&&lay f.type then jI P lay (off+P.cellsOf f.type) fs else none
def layOk (P:Program):Nat->TypeId->Bool
 |0,_=>false
 |n+1,T=>
  match P.underlying T with
  |some (.int _)=>Nat.beq (P.cellsOf T) 1
  |some .bool=>Nat.beq (P.cellsOf T) 1
  |some .string=>Nat.beq (P.cellsOf T) 1
  |some (.slice _)=>Nat.beq (P.cellsOf T) 1
  |some (.struct fs)=>match jI P (layOk P n) 0 fs.toList with
   |some z=>Nat.beq z (P.cellsOf T)
   |none=>false
  |some (.array m e)=>layOk P n e&&Nat.beq (m*P.cellsOf e) (P.cellsOf T)
  |_=>Nat.beq (P.cellsOf T) 1
def rowDepth:Nat:=8
def fE (P:Program):Nat->TypeId->Bool
 |0,_=>false
 |n+1,T=>
  match P.underlying T with
  |some (.int _)=>true
  |some .bool=>true
  |some .string=>true
  |some (.slice _)=>true
  |some (.struct fs)=>fs.toList.all fun f=>fE P n f.type
  |some (.array _ e)=>fE P n e
  |_=>false
def one:AV->Bool
 | .undef=>false
 | .agg _=>false
 | .dat _ _=>false
 | .tup _=>false
 | .nx _ _ _=>false
 | .sc (.agg _)=>false
 | .sc (.tuple _)=>false
 |_=>true
def cellsOf:AV->Option (List AV)
 | .agg cs=>some cs
 | .dat T d=>some (bC rowDepth T d)
 |x=>if one x then some [x]else none
def kt (P:Program) (T:TypeId):Option Bool:=
 match P.underlying T with
 |some (.struct _)=>some true
 |some (.array _ _)=>some true
 |some _=>some false
 |none=>none
def ek (P:Program) (T:TypeId):Option AV:=((P.info? T).bind (·.zero)).map ofV
def getB (H:Hp) (i:Nat):Option (List AV):=
 match H.get i with
 |some (.cells cs)=>some cs
 |some (.dat T d)=>some (bC rowDepth T d)
 |_=>none
def datB (H:Hp) (i:Nat):Option (TypeId×D):=
 match H.get i with
 |some (.dat T d)=>some (T,d)
 |_=>none
def sj (H:Hp) (i off n:Nat):Option AV:=
 match datB H i with
 |some (T,d)=>bif Nat.beq off 0&&Nat.beq n (PG.cellsOf T)then some (.dat T d)else none
 |none=>none
def nM (H:Hp) (i off:Nat):Option AV:=
 match datB H i with
 |some (T,d)=>bif Nat.beq off 0 then some (.edat T d)else none
 |none=>none
def gm (x y:Option AV):Option AV:=
 match x with
 |some v=>some v
 |none=>y
def getM (H:Hp) (i:Nat):Option (List (Value×AV)):=
 match H.get i with
 |some (.map es)=>some es
 |_=>none
def getL (H:Hp) (i:Nat):Option (TypeId×D):=
 match H.get i with
 |some (.lst T d)=>some (T,d)
 |_=>none
def nN (P:Program) (T:TypeId):Bool:=
 match kt P T with
 |some true=>true
 |_=>false
def cD (T:TypeId) (cs:List AV):AV:=
 bif nN PG T then .agg cs else(match cs with | [x]=>x|_=> .undef)
def avD:Nat->TypeId->AV->Option D
 |0,_,_=>none
 |n+1,T,x=>
  match PG.underlying T with
  |some (.int k)=>(match x with
   | .ui k' m=>if k=k' then some (.int m)else none
   | .sc (.int k' m)=>if k=k' then some (.int m)else none
   |_=>none)
  |some .bool=>(match x with
   | .ub b=>some (.bool b)
   | .sc (.bool b)=>some (.bool b)
   |_=>none)
  |some .string=>(match x with
   | .us s=>some (.str s)
   | .sc (.string s)=>some (.str s)
   |_=>none)
  |some (.slice e)=>(match x with
   | .rows T' d=>bif Nat.beq T' e then some d else none
   | .esl xs=>bif xs.all (fun c=>Nat.beq c.length (PG.cellsOf e))then(bE (fun cs=>avD n e (cD e cs)) xs).map .list else none
   | .sc (.slice none 0 0)=>some (.list [])
   |_=>none)
  |some (.struct fs)=>(match x with
   | .dat T' d=>bif Nat.beq T' T then some d else none
   | .agg cs=>bif Nat.beq cs.length (PG.cellsOf T)then(bE (fun(f:Field)=>avD n f.type (cD f.type ((cs.drop f.offset).take (PG.cellsOf f.type)))) fs.toList).map .agg else none
   |_=>none)
  |some (.array m e)=>(match x with
   | .dat T' d=>bif Nat.beq T' T then some d else none
   | .agg cs=>bif Nat.beq cs.length (PG.cellsOf T)then(bE (fun j=>avD n e (cD e ((cs.drop (j*PG.cellsOf e)).take (PG.cellsOf e)))) (List.range m)).map .agg else none
   |_=>none)
  |_=>none
def dm:Nat:=12
def chunks (z:Nat):Nat->List AV->List (List AV)
 |0,_=>[]
 |n+1,cs=>cs.take z::chunks z n (cs.drop z)
def Qh (e:TypeId) (s len:Nat) (cs:List AV):Option (List D):=bE (fun c=>avD dm e (cD e c)) (chunks s len cs)
def getV (H:Hp) (i:Nat) (T:TypeId):Option (TypeId×D):=
 match H.get i with
 |some (.lst T' d)=>some (T',d)
 |some (.cells cs)=>bif layOk PG rowDepth T then(Qh T (PG.cellsOf T) (cs.length/PG.cellsOf T) cs).map fun ds=>(T, .list ds)else none
 |_=>none
def Bb (H:Hp) (i:Nat) (T:TypeId) (n:Int):Option (List AV):=
 (getV H i T).bind fun q=>bif Nat.beq q.1 T then some (bC rowDepth T (ay q.2 n))else none
def ld1 (H:Hp):AV->Option AV
 | .oel i T n off=>(Bb H i T n).bind fun cs=>cs[off]?
 | .ptr i off=>(getB H i).bind fun cs=>cs[off]?
 | .eptr cs=>cs.head?
 | .edat T d=>(bC rowDepth T d).head?
 | .sc (.pointer (some ⟨g,off,none⟩))=>(H.glob g).bind fun cs=>cs[off]?
 |_=>none
def ldN (H:Hp) (n:Nat):AV->Option AV
 | .oel i T m off=>(getV H i T).bind fun q=>bif Nat.beq q.1 T then
    (bif Nat.beq off 0&&Nat.beq n (PG.cellsOf T)then some (.dat T (ay q.2 m))
     else(let cs:=bC rowDepth T (ay q.2 m);if off+n≤cs.length then some (.agg ((cs.drop off).take n))else none))else none
 | .ptr i off=>gm (sj H i off n) ((getB H i).bind fun cs=>if off+n≤cs.length then some (.agg ((cs.drop off).take n))else none)
 | .eptr cs=>if n≤cs.length then some (.agg (cs.take n))else none
 | .edat T d=>bif Nat.beq n (PG.cellsOf T)then some (.dat T d)else(let cs:=bC rowDepth T d;if n≤cs.length then some (.agg (cs.take n))else none)
 | .sc (.pointer (some ⟨g,off,none⟩))=>(H.glob g).bind fun cs=>if off+n≤cs.length then some (.agg ((cs.drop off).take n))else none
 |_=>none
def eR (P:Program) (H:Hp) (T:TypeId) (x:AV):Option AV:=
 match kt P T with
 |some true=>(sz P T).bind fun n=>ldN H n x
 |some false=>ld1 H x
 |none=>none
def setCells (cs:List AV) (off:Nat) (vs:List AV):List AV:=cs.take off++vs++cs.drop (off+vs.length)
def stN (H:Hp) (n:Nat) (x:AV) (vs:List AV):Option Hp:=
 match x with
 | .ptr i off=>(getB H i).bind fun cs=>
    if vs.length=n∧off+n≤cs.length∧vs.all one=true then some (H.put i (some (.cells (setCells cs off vs))))else none
 |_=>none
def stL (H:Hp) (n i:Nat) (T:TypeId) (m:Int) (off:Nat) (v:AV) (vs:List AV):Option Hp:=
 (getL H i).bind fun q=>bif Nat.beq q.1 T&&layOk PG rowDepth T then
  (match v with
   | .dat T' d=>bif Nat.beq off 0&&Nat.beq T' T&&Nat.beq n (PG.cellsOf T)&&vs.all one then some (H.put i (some (.lst T (Qf q.2 m d))))else none
   |_=>(let cs:=bC rowDepth T (ay q.2 m)
     bif Nat.beq vs.length n&&Nat.ble (off+n) cs.length&&vs.all one then
      (avD dm T (cD T (setCells cs off vs))).bind fun d=>some (H.put i (some (.lst T (Qf q.2 m d))))else none))else none
def isB (H:Hp) (i n:Nat):Bool:=match getB H i with|some cs=>Nat.beq cs.length n|none=>false
def kw (P:Program) (H:Hp) (T:TypeId) (x v:AV):Option Hp:=
 (sz P T).bind fun n=>(cellsOf v).bind fun vs=>
  match x with
  | .oel i T' m off=>stL H n i T' m off v vs
  | .ptr i off=>(match v with
    | .dat T' d=>bif Nat.beq off 0&&Nat.beq n (PG.cellsOf T')&&isB H i n&&vs.all one then some (H.put i (some (.dat T' d)))else stN H n (.ptr i off) vs
    |_=>stN H n (.ptr i off) vs)
  |x=>stN H n x vs
def dP (o:Nat):AV->Option AV
 | .ptr i off=>some (.ptr i (off+o))
 | .eptr cs=>some (.eptr (cs.drop o))
 | .edat T d=>some (.eptr ((bC rowDepth T d).drop o))
 | .sc (.pointer (some ⟨g,off,none⟩))=>some (.sc (.pointer (some ⟨g,off+o,none⟩)))
 | .oel i T n off=>some (.oel i T n (off+o))
 |_=>none
def lP (P:Program) (s:TypeId) (f:Nat):Option Nat:=
 match P.underlying s with
 |some (.struct fs)=>match fs[f]? with
  |some fd=>match sz P fd.type with
   |some (_+1)=>some fd.offset
   |_=>none
  |none=>none
 |_=>none
def kA (P:Program) (s:TypeId) (f:Nat) (x:AV):Option AV:=(lP P s f).bind fun o=>dP o x
def elemAt (s:Nat) (n:Int):AV->Option AV
 | .sl i z off len=>if z=s∧0≤n∧n<len then some (.ptr i (off+n.toNat*s))else none
 | .esl xs=>if 0≤n then(xs[n.toNat]?).bind fun c=>if c.length=s then some (.eptr c)else none else none
 |_=>none
def NJ (s len:Nat) (n:Int) (x:AV):Option AV:=if 0≤n∧n<len then dP (n.toNat*s) x else none
def FW (s:Nat) (n:Int):AV->Option AV
 | .osl i T _=>bif layOk PG rowDepth T&&Nat.beq (PG.cellsOf T) s then some (.oel i T n 0)else none
 | .rows T d=>bif layOk PG rowDepth T&&Nat.beq (PG.cellsOf T) s then(bif nN PG T then some (.edat T (ay d n))else some (.eptr (bC rowDepth T (ay d n))))else none
 |_=>none
def FX (s:Nat) (n:Int) (x:AV):Option AV:=
 match x with
 | .rows T d=>FW s n (.rows T d)
 | .osl i T m=>FW s n (.osl i T m)
 |x=>elemAt s n x
def tM (P:Program) (T:TypeId) (x:AV):AV->Option AV
 | .sc (.int _ n)=>
   match P.underlying T with
   |some (.array len e)=>(sz P e).bind fun s=>NJ s len n x
   |some (.slice e)=>(sz P e).bind fun s=>FX s n x
   |_=>none
 | .ui _ n=>
   match P.underlying T with
   |some (.slice e)=>(sz P e).bind fun s=>FW s n x
   |_=>none
 |_=>none
def C6 (x:AV) (n:Int):List Bool:=match x with | .rows _ d=>[aS d n] | .osl _ _ m=>[ab .leq 0 n,ab .lss n m]|_=>[]
def vw (x:AV):AV->List Bool
 | .sc (.int _ n)=>C6 x n
 | .ui _ n=>C6 x n
 |_=>[]
def idxG (P:Program) (H:Hp) (T:TypeId) (c:Value) (ix:AV):Option AV:=
 match c,ix with
 | .pointer (some ⟨g,off,none⟩), .ui _ n=>
   (match P.underlying T with
   |some (.array len e)=>(sz P e).bind fun s=>(H.glob g).bind fun cs=>(Qh e s len (cs.drop off)).bind fun ds=>
    bif layOk PG rowDepth e&&Nat.beq (PG.cellsOf e) s&&Nat.ble (len*s) (cs.drop off).length then
     some (bif nN PG e then .edat e (ay (.list ds) n)else .eptr (bC rowDepth e (ay (.list ds) n)))else none
   |_=>none)
 |_,_=>none
def t0 (P:Program) (H:Hp) (T:TypeId) (c:Value) (ix:AV):List Bool:=
 match c,ix with
 | .pointer (some ⟨g,off,none⟩), .ui _ n=>
   (match P.underlying T with
   |some (.array len e)=>(match(sz P e).bind fun s=>(H.glob g).bind fun cs=>Qh e s len (cs.drop off)with|some ds=>[aS (.list ds) n]|none=>[])
   |_=>[])
 |_,_=>[]
def idxP (P:Program) (T:TypeId) (x ix:AV):Option AV:=
 match x,ix with
 | .ptr i off, .ui _ n=>(match P.underlying T with
   |some (.array _ e)=>(sz P e).bind fun s=>bif Nat.beq off 0&&layOk PG rowDepth e&&Nat.beq (PG.cellsOf e) s then some (.oel i e n 0)else none
   |_=>none)
 | .sl i z off _, .ui _ n=>(match P.underlying T with
   |some (.slice e)=>(sz P e).bind fun s=>bif Nat.beq off 0&&Nat.beq z s&&layOk PG rowDepth e&&Nat.beq (PG.cellsOf e) s then some (.oel i e n 0)else none
   |_=>none)
 |_,_=>none
def mM (P:Program) (T:TypeId) (x ix:AV):List Bool:=
 match x,ix with
 | .ptr _ _, .ui _ n=>(match P.underlying T with
   |some (.array len _)=>[ab .leq 0 n,ab .lss n len]
   |_=>[])
 | .sl _ _ _ len, .ui _ n=>[ab .leq 0 n,ab .lss n len]
 |_,_=>[]
def oB (P:Program) (H:Hp) (T:TypeId) (o:Operand) (x ix:AV):Option AV:=
 match o with
 | .global g=>(match tM P T x ix with|some v=>some v|none=>idxG P H T (.pointer (some ⟨g,0,none⟩)) ix)
 |_=>(match tM P T x ix with|some v=>some v|none=>idxP P T x ix)
def gn (P:Program) (H:Hp) (T:TypeId) (o:Operand) (x ix:AV):List Bool:=
 match o with
 | .global g=>(match tM P T x ix with|some _=>vw x ix|none=>t0 P H T (.pointer (some ⟨g,0,none⟩)) ix)
 |_=>(match tM P T x ix with|some _=>vw x ix|none=>mM P T x ix)
def fF (H:Hp):AV->List Bool
 | .oel i T n _=>(match getV H i T with|some q=>[aS q.2 n]|none=>[])
 |_=>[]
def Bc (P:Program) (T:TypeId):Bool:=match P.underlying T with|some .string=>true|_=>false
def Ka (P:Program) (T:TypeId) (x ix:AV):Option AV:=
 match x,ix with
 | .us s, .ui _ n=>bif Bc P T then some (.ui .u8 (vt s n))else none
 | .us s, .sc (.int _ n)=>bif Bc P T then some (.ui .u8 (vt s n))else none
 | .sc (.string s), .ui _ n=>bif Bc P T then some (.ui .u8 (vt s n))else none
 | .sc v, .sc i=>(bR P (Instr.index T v i)).map ofV
 | .agg cs, .sc (.int _ n)=>
   match P.underlying T with
   |some (.array len e)=>(sz P e).bind fun s=>if 0≤n∧n<len then
     (match kt P e with
      |some true=>if n.toNat*s+s≤cs.length then some (.agg ((cs.drop (n.toNat*s)).take s))else none
      |some false=>cs[n.toNat*s]?
      |none=>none)else none
   |_=>none
 |_,_=>none
def oC:AV->AV->List Bool
 | .us s, .ui _ n=>[vv s n]
 | .us s, .sc (.int _ n)=>[vv s n]
 | .sc (.string s), .ui _ n=>[vv s n]
 |_,_=>[]
def qp (P:Program) (T:TypeId) (f:Nat) (cs:List AV):Option AV:=
 match P.underlying T with
 |some (.struct fs)=>(fs[f]?).bind fun fd=>(sz P fd.type).bind fun s=>
   match kt P fd.type with
   |some true=>if fd.offset+s≤cs.length then some (.agg ((cs.drop fd.offset).take s))else none
   |some false=>cs[fd.offset]?
   |none=>none
 |_=>none
def vx (P:Program) (T:TypeId) (f:Nat):AV->Option AV
 | .agg cs=>qp P T f cs
 | .dat T' d=>qp P T f (bC rowDepth T' d)
 |_=>none
def vy:AV->Option Nat
 | .sc (.int _ n)=>if 0≤n then some n.toNat else none
 |_=>none
def gQ:Option AV->Option Nat
 |none=>some 0
 |some x=>vy x
def gD (d:Nat):Option AV->Option Nat
 |none=>some d
 |some x=>vy x
def Kb (P:Program) (T:TypeId) (xs:List (List AV)) (l h:Nat):Option AV:=
 if l≤h∧h≤xs.length then
  (match P.underlying T with
   |some (.slice e)=>(sz P e).bind fun s=>
    if l=0 then some (.esl (xs.take h))else if l<h then((xs[l]?).bind fun c=>if c.length=s then some (.esl ((xs.take h).drop l))else none)else some (.esl [])
   |_=>none)else none
def Kc (P:Program) (T:TypeId) (i z off len l h:Nat):Option AV:=
 if l≤h∧h≤len then
  (match P.underlying T with
   |some (.slice e)=>(sz P e).bind fun s=>if s=z then(if l=0 then some (.sl i z off h)else if l<h then some (.sl i z (off+l*z) (h-l))else some (.esl []))else none
   |_=>none)else none
def C7 (P:Program) (H:Hp) (T:TypeId) (i off l:Nat) (hi:Option AV):Option AV:=
 match P.underlying T with
 |some (.array n e)=>(sz P e).bind fun s=>(gD n hi).bind fun h=>(getB H i).bind fun cs=>if l≤h∧h≤n∧off+n*s≤cs.length then
   (if l=0 then some (.sl i s off h)else if l<h then some (.sl i s (off+l*s) (h-l))else some (.esl []))else none
 |_=>none
def isSlice:AV->Bool
 | .sc (.slice _ _ _)=>true
 | .sl _ _ _ _=>true
 | .esl _=>true
 | .rows _ _=>true
 | .rowz _ _=>true
 | .osl _ _ _=>true
 | .e0=>true
 |_=>false
def qq:Option AV->Option (Option Value)
 |none=>some none
 |some (.sc v)=>some (some v)
 |some _=>none
def numOf:AV->Option Int
 | .sc (.int _ n)=>some n
 | .ui _ n=>some n
 |_=>none
def vz:Option AV->Option Int
 |none=>some 0
 |some x=>numOf x
def sq (d:D):Option AV->Option Int
 |none=>some (ae d)
 |some x=>numOf x
def Kd (P':Program) (T':TypeId) (T:TypeId) (d:D) (lo hi:Option AV):Option AV:=
 match P'.underlying T' with
 |some (.slice e)=>bif (sz P' e).isSome&&Nat.beq (P'.cellsOf e) (PG.cellsOf T)&&layOk PG rowDepth T then(vz lo).bind fun l=>(sq d hi).map fun h=> .rows T (dr d l h)else none
 |_=>none
def Be (s:ByteArray):Option AV->Option Int
 |none=>some (fB s)
 |some x=>numOf x
def C8 (P:Program) (T:TypeId) (s:ByteArray) (lo hi:Option AV):Option AV:=
 match P.underlying T with
 |some .string=>(vz lo).bind fun l=>(Be s hi).map fun h=> .us (qsubS s l h)
 |_=>none
def NK (P:Program) (T:TypeId) (v:Value) (lo hi:Option AV):Option AV:=
 match v with
 | .string s=>C8 P T s lo hi
 |_=>none
def eo (x:AV) (lo hi:Option AV):List Bool:=
 match x with
 | .sc (.string s)=>(match qq lo,qq hi with
   |some _,some _=>[]
   |_,_=>(match vz lo,Be s hi with
    |some l,some h=>[ab .leq 0 l,ab .leq l h,ab .leq h (fB s)]
    |_,_=>[]))
 | .us s=>(match vz lo,Be s hi with
   |some l,some h=>[ab .leq 0 l,ab .leq l h,ab .leq h (fB s)]
   |_,_=>[])
 | .rows _ d=>(match vz lo,sq d hi with
   |some l,some h=>[ab .leq 0 l,ab .leq l h,ab .leq h (ae d)]
   |_,_=>[])
 | .osl _ _ m=>(match hi with
   |none=>[]
   |some y=>(match numOf y with
    |some h=>[ab .leq 0 h,ab .leq h m]
    |none=>[]))
 |_=>[]
def isZ:AV->Bool
 | .sc (.int _ 0)=>true
 |_=>false
def mN (x:AV) (hi:Option AV) (mx:AV):List Bool:=
 match hi,x with
 |some h, .osl _ _ m=>bif isZ h&&(isZ mx&&isSlice x)then[]else
   (match numOf h,numOf mx with
   |some h,some k=>[ab .eql h m,ab .eql k m]
   |_,_=>[])
 |_,_=>[]
def vB (P:Program) (T T':TypeId) (i:Nat) (x:AV) (lo hi:Option AV):Option AV:=
 match P.underlying T with
 |some (.slice e)=>bif (sz P e).isSome&&Nat.beq (P.cellsOf e) (PG.cellsOf T')then(gQ lo).bind fun l=>(match hi with|none=>(match x with | .osl _ _ m=>some m|_=>none)|some y=>numOf y).bind fun h=>bif Nat.beq l 0 then some (.osl i T' h)else none else none
 |_=>none
def Ke (P:Program) (T:TypeId) (x:AV) (lo hi:Option AV) (mx:AV):Option AV:=
 match P.underlying T with
 |some (.slice e)=>bif (sz P e).isSome then(gQ lo).bind fun l=>bif Nat.beq l 0 then hi.bind fun h=>
   bif isZ h&&(isZ mx&&isSlice x)then some .e0 else
   (match x with
   | .osl i T' _=>(numOf h).bind fun h=>(numOf mx).bind fun _=>bif Nat.beq (P.cellsOf e) (PG.cellsOf T')then some (.osl i T' h)else none
   | .sl i z off len=>(vy h).bind fun h=>(vy mx).bind fun m=>if h≤m∧m≤len then some (.sl i z off h)else none
   |_=>none)else none else none
 |_=>none
def kB (P:Program) (H:Hp) (T:TypeId) (x:AV) (lo hi mx:Option AV):Option AV:=
 match mx with
 |some m=>Ke P T x lo hi m
 |none=>
  match x with
  | .osl i T' _=>vB P T T' i x lo hi
  | .rows T' d=>Kd P T T' d lo hi
  | .esl xs=>(gQ lo).bind fun l=>(gD xs.length hi).bind fun h=>Kb P T xs l h
  | .sl i z off len=>(gQ lo).bind fun l=>(gD len hi).bind fun h=>Kc P T i z off len l h
  | .ptr i off=>(gQ lo).bind fun l=>C7 P H T i off l hi
  | .us s=>C8 P T s lo hi
  | .sc v=>(match qq lo,qq hi with
    |some a,some b=>(bR P (Instr.sliceAt T v a b none)).map .sc
    |_,_=>NK P T v lo hi)
  |_=>none
def Bf (P:Program) (T:TypeId) (x:AV) (b:Value):Option Bool:=
 match P.underlying T with
 |some (.pointer _)=>(match x,b with
  | .ptr _ _, .pointer none=>some false
  | .eptr _, .pointer none=>some false
  | .edat _ _, .pointer none=>some false
  | .sc (.pointer none), .pointer none=>some true
  |_,_=>none)
 |some (.slice _)=>(match x,b with
  | .sl _ _ _ _, .slice none _ _=>some false
  | .rowz _ _, .slice none _ _=>some false
  | .esl (_::_), .slice none _ _=>some false
  | .sc (.slice none _ _), .slice none _ _=>some true
  |_,_=>none)
 |some (.map _ _)=>(match x,b with
  | .map _, .map none=>some false
  | .emap _, .map none=>some false
  | .sc (.map none), .map none=>some true
  |_,_=>none)
 |some (.func _ _ _)=>(match x,b with
  | .func _ _ _, .nilFunc=>some false
  | .sc .nilFunc, .nilFunc=>some true
  |_,_=>none)
 |_=>none
def leI:Int->Int->Bool
 | .ofNat a, .ofNat b=>Nat.ble a b
 | .ofNat _, .negSucc _=>false
 | .negSucc _, .ofNat _=>true
 | .negSucc a, .negSucc b=>Nat.ble b a
def gF (op:BinOp) (k:IntKind) (a b:Int):Option AV:=
 match op with
 | .add=>some (.sc (.int k (k.wrap (a+b))))
 | .sub=>some (.sc (.int k (k.wrap (a-b))))
 | .mul=>some (.sc (.int k (k.wrap (a*b))))
 | .eql=>some (.sc (.bool (a==b)))
 | .neq=>some (.sc (.bool (a != b)))
 | .lss=>some (.sc (.bool (!(leI b a))))
 | .leq=>some (.sc (.bool (leI a b)))
 | .gtr=>some (.sc (.bool (!(leI a b))))
 | .geq=>some (.sc (.bool (leI b a)))
 | .quo=>if b=0 then none else some (.sc (.int k (k.wrap (a.tdiv b))))
 | .rem=>if b=0 then none else some (.sc (.int k (a.tmod b)))
 | .and=>some (.sc (.int k (k.wrap (BitVec.ofInt k.bits a &&& BitVec.ofInt k.bits b).toNat)))
 | .or=>some (.sc (.int k (k.wrap (BitVec.ofInt k.bits a ||| BitVec.ofInt k.bits b).toNat)))
 | .xor=>some (.sc (.int k (k.wrap (BitVec.ofInt k.bits a ^^^ BitVec.ofInt k.bits b).toNat)))
 | .andNot=>some (.sc (.int k (k.wrap (BitVec.ofInt k.bits a &&& ~~~ BitVec.ofInt k.bits b).toNat)))
 |_=>none
def vC (op:BinOp) (k:IntKind) (a b:Int):Option AV:=
 if b<0 then none else
 match op with
 | .shl=>some (.sc (.int k (k.wrap (a*2^(min b.toNat k.bits)))))
 | .shr=>some (.sc (.int k (a.fdiv (2^(min b.toNat k.bits)))))
 |_=>none
def cF:BinOp->Bool
 | .shl=>true
 | .shr=>true
 |_=>false
def eY (op:BinOp) (k:IntKind) (a:Int) (k':IntKind) (b:Int):Option AV:=
 bif cF op then vC op k a b
 else if k=k' then gF op k a b else none
def vD (op:BinOp) (a b:ByteArray):Option AV:=
 match op with
 | .add=>if((a.size+b.size:Nat):Int)>9223372036854775807 then none else some (.sc (.string (a++b)))
 | .eql=>some (.sc (.bool (a.toList==b.toList)))
 | .neq=>some (.sc (.bool (!(a.toList==b.toList))))
 | .lss=>some (.sc (.bool (Op.bytesLess a.toList b.toList)))
 | .leq=>some (.sc (.bool (Op.bytesLess a.toList b.toList||a.toList==b.toList)))
 | .gtr=>some (.sc (.bool (!(Op.bytesLess a.toList b.toList||a.toList==b.toList))))
 | .geq=>some (.sc (.bool (!(Op.bytesLess a.toList b.toList))))
 |_=>none
def C9 (op:BinOp) (a b:Bool):Option AV:=
 match op with
 | .eql=>some (.sc (.bool (a==b)))
 | .neq=>some (.sc (.bool (a != b)))
 |_=>none
def SM (P:Program) (op:BinOp) (T:TypeId) (x:AV) (b:Value):Option AV:=
 match op with
 | .eql=>(Bf P T x b).map fun t=> .sc (.bool t)
 | .neq=>(Bf P T x b).map fun t=> .sc (.bool (!t))
 |_=>none
def Bg:BinOp->Bool
 | .eql=>true
 | .neq=>true
 | .lss=>true
 | .leq=>true
 | .gtr=>true
 | .geq=>true
 |_=>false
def NL:BinOp->Bool
 | .add=>true
 | .sub=>true
 | .mul=>true
 | .quo=>true
 | .rem=>true
 | .and=>true
 | .or=>true
 | .xor=>true
 | .andNot=>true
 |_=>false
def Bh (op:BinOp) (k:IntKind) (a:Int) (k':IntKind) (b:Int):Option AV:=
 bif cF op then some (.ui k (aM op k a b))
 else if k=k' then
  (bif Bg op then some (.ub (ab op a b))else bif NL op then some (.ui k (aM op k a b))else none)
 else none
def Bi (op:BinOp) (a b:ByteArray):Option AV:=
 match op with
 | .add=>some (.us (J8 a b))
 |op=>bif Bg op then some (.ub (cI op a b))else none
def Bj (P:Program) (op:BinOp) (T:TypeId) (a b:Bool):Option AV:=
 match P.underlying T with
 |some .bool=>(match op with
  | .eql=>some (.ub (AA a b))
  | .neq=>some (.ub (bU (AA a b)))
  |_=>none)
 |_=>none
def eq1 (P:Program) (T:TypeId) (x y:AV):Option AV:=
 match P.underlying T with
 |some (.int _)=>(match x,y with
  | .sc (.int k a), .sc (.int k' b)=>if k=k' then some (.sc (.bool (a==b)))else none
  | .sc (.int k a), .ui k' b=>if k=k' then some (.ub (ab .eql a b))else none
  | .ui k a, .sc (.int k' b)=>if k=k' then some (.ub (ab .eql a b))else none
  | .ui k a, .ui k' b=>if k=k' then some (.ub (ab .eql a b))else none
  |_,_=>none)
 |some .bool=>(match x,y with
  | .sc (.bool a), .sc (.bool b)=>some (.sc (.bool (a==b)))
  | .sc (.bool a), .ub b=>some (.ub (AA a b))
  | .ub a, .sc (.bool b)=>some (.ub (AA a b))
  | .ub a, .ub b=>some (.ub (AA a b))
  |_,_=>none)
 |some .string=>(match x,y with
  | .sc (.string a), .sc (.string b)=>some (.sc (.bool (a.toList==b.toList)))
  | .sc (.string a), .us b=>some (.ub (cI .eql a b))
  | .us a, .sc (.string b)=>some (.ub (cI .eql a b))
  | .us a, .us b=>some (.ub (cI .eql a b))
  |_,_=>none)
 |_=>none
def andA (x y:AV):AV:=
 match x with
 | .sc (.bool false)=> .sc (.bool false)
 | .sc (.bool true)=>y
 | .ub a=>(match y with
   | .sc (.bool false)=> .sc (.bool false)
   | .sc (.bool true)=> .ub a
   | .ub b=> .ub (ci a b)
   |_=> .undef)
 |_=> .undef
def SN:AV->AV
 | .sc (.bool b)=> .sc (.bool !b)
 | .ub b=> .ub (bU b)
 |_=> .undef
def eqF (P:Program) (xs ys:List AV):List Field->Option AV
 | []=>some (.sc (.bool true))
 |f::fs=>bif f.name == "_" then none else
  (xs[f.offset]?).bind fun x=>(ys[f.offset]?).bind fun y=>(eq1 P f.type x y).bind fun e=>(eqF P xs ys fs).map (andA e)
def eqE (P:Program) (T:TypeId) (xs ys:List AV):List Nat->Option AV
 | []=>some (.sc (.bool true))
 |j::js=>(xs[j]?).bind fun x=>(ys[j]?).bind fun y=>(eq1 P T x y).bind fun e=>(eqE P T xs ys js).map (andA e)
def sr (P:Program) (T:TypeId) (xs ys:List AV):Option AV:=
 match P.underlying T with
 |some (.struct fs)=>bif P.stoodInHeld T||P.eqGuardType P.depth T then none else eqF P xs ys fs.toList
 |some (.array m e)=>bif P.eqGuardType P.depth T then none else(match sz P e with|some 1=>eqE P e xs ys (List.range m)|_=>none)
 |_=>none
def Da (P:Program) (op:BinOp) (T:TypeId) (xs:List AV) (y:AV):Option AV:=
 match y with
 | .agg ys=>(match op with | .eql=>sr P T xs ys | .neq=>(sr P T xs ys).map SN|_=>none)
 | .dat T' d=>(match op with | .eql=>sr P T xs (bC rowDepth T' d) | .neq=>(sr P T xs (bC rowDepth T' d)).map SN|_=>none)
 |_=>none
def jn (op:BinOp) (x y:AV):List Bool:=
 match op with
 | .quo=>(match x,y with
   | .ui _ _, .sc (.int _ b)=>bif (leI b 0&&leI 0 b)then[false]else[]
   |_, .ui _ b=>[ab .neq b 0]
   |_,_=>[])
 | .rem=>(match x,y with
   | .ui _ _, .sc (.int _ b)=>bif (leI b 0&&leI 0 b)then[false]else[]
   |_, .ui _ b=>[ab .neq b 0]
   |_,_=>[])
 | .shl=>(match x,y with
   | .ui _ _, .sc (.int _ b)=>bif leI 0 b then[]else[false]
   |_, .ui _ b=>[ab .geq b 0]
   |_,_=>[])
 | .shr=>(match x,y with
   | .ui _ _, .sc (.int _ b)=>bif leI 0 b then[]else[false]
   |_, .ui _ b=>[ab .geq b 0]
   |_,_=>[])
 | .add=>(match x,y with
   | .us a, .us b=>[jm a b]
   | .us a, .sc (.string b)=>[jm a b]
   | .sc (.string a), .us b=>[jm a b]
   |_,_=>[])
 |_=>[]
def binA (P:Program) (op:BinOp) (T:TypeId) (x y:AV):Option AV:=
 match x with
 | .sc (.int k a)=>(match y with
   | .sc (.int k' b)=>eY op k a k' b
   | .ui k' b=>Bh op k a k' b
   |_=>none)
 | .ui k a=>(match y with
   | .sc (.int k' b)=>Bh op k a k' b
   | .ui k' b=>Bh op k a k' b
   |_=>none)
 | .sc (.string a)=>(match y with
   | .sc (.string b)=>vD op a b
   | .us b=>Bi op a b
   |_=>none)
 | .us a=>(match y with
   | .sc (.string b)=>Bi op a b
   | .us b=>Bi op a b
   |_=>none)
 | .sc (.bool a)=>(match y with
   | .sc (.bool b)=>(match P.underlying T with
     |some .bool=>C9 op a b
     |_=>none)
   | .ub b=>Bj P op T a b
   |_=>none)
 | .ub a=>(match y with
   | .sc (.bool b)=>Bj P op T a b
   | .ub b=>Bj P op T a b
   |_=>none)
 | .agg xs=>Da P op T xs y
 | .dat T' d=>Da P op T (bC rowDepth T' d) y
 |x=>(match y with
  | .sc b=>SM P op T x b
  |_=>none)
def unA (P:Program) (op:UnOp):AV->Option AV
 | .sc a=>(bR P (Op.unary op a)).map ofV
 | .ui k n=>(match op with
   | .neg=>some (.ui k (qun .neg k n))
   | .xor=>some (.ui k (qun .xor k n))
   |_=>none)
 | .ub b=>(match op with
   | .not=>some (.ub (bU b))
   |_=>none)
 |_=>none
def jo:List (List AV)->Option (List Int)
 | []=>some []
 | [.sc (.int .u8 n)]::r=>(jo r).map (n :: ·)
 |_=>none
def Bk (P:Program) (src dst:TypeId):AV->Option AV
 | .sc a=>(bR P (convert src dst a)).map ofV
 | .ui _ n=>(match P.underlying src,P.underlying dst with
   |some _,some (.int k)=>some (.ui k (fA k n))
   |_,_=>none)
 | .us s=>(match P.underlying src,P.underlying dst with
   |some .string,some .string=>some (.us s)
   |_,_=>none)
 | .rows e' d=>(match P.underlying src,P.underlying dst with
   |some (.slice e),some .string=>(match P.underlying e,PG.underlying e with
    |some (.int .u8),some (.int .u8)=>bif Nat.beq (PG.cellsOf e) 1&&Nat.beq e' e then some (.us (SL d))else none
    |_,_=>none)
   |_,_=>none)
 | .esl xs=>(match P.underlying src,P.underlying dst with
   |some (.slice e),some .string=>(match P.underlying e with
    |some (.int .u8)=>(jo xs).map fun ns=> .sc (.string (ns.foldl (fun r n=>r.push (UInt8.ofNat n.toNat)) ByteArray.empty))
    |_=>none)
   |_,_=>none)
 |_=>none
def vE (P:Program) (src dst:TypeId) (x:AV):Option AV:=
 match P.underlying src,P.underlying dst with
 |some .string,some (.slice e)=>(match P.underlying e,PG.underlying e with
  |some (.int .u8),some (.int .u8)=>bif Nat.beq (PG.cellsOf e) 1 then(match x with
   | .us s=>some (.rows e (J7 s))
   | .sc (.string s)=>some (.esl (s.toList.map fun c=>[.sc (.int .u8 c.toNat)]))
   |_=>none)else none
  |_,_=>none)
 |_,_=>none
def FY (c a b:AV):Option AV:=
 match c with
 | .sc (.bool true)=>some a
 | .sc (.bool false)=>some b
 |_=>none
def oD (i:Nat):AV->Option AV
 | .tup vs=>vs[i]?
 | .nx b x y=>(match i with|0=>some (.ub b)|1=>some x|2=>some y|_=>none)
 |_=>none
def ie (i:Nat):AV->List Bool
 | .nx b _ _=>(match i with|0=>[]|_=>[b])
 |_=>[]
def nextK (H:Hp) (i:Nat) (s:ByteArray) (p:Nat):AV×Hp:=
 bif Nat.blt p s.size then(.tup [.sc (.bool true), .sc (.int .i64 p), .sc (.int .i32 ((Utf8.decode s p).1:Nat))],H.put i (some (.siter s ((p+(Utf8.decode s p).2:Nat):Int) true)))
 else(.tup [.sc (.bool false)],H)
def nextU (H:Hp) (i:Nat) (s:ByteArray) (pos:Int):AV×Hp:=
 (.nx (ab .lss pos (fB s)) (.ui .i64 pos) (.ui .i32 (FU s pos)),H.put i (some (.siter s (fC (ab .lss pos (fB s)) (qrw s pos) pos) false)))
def nextE (H:Hp) (i:Nat) (es:List (Value×AV)) (n:Nat):Option (AV×Hp):=
 match es with
 | []=>bif Nat.beq n 0 then some (.tup [.sc (.bool false)],H)else none
 | [(k,v)]=>bif Nat.beq n 0 then some (.tup [.sc (.bool true),ofV k,v],H.put i (some (.miter [(k,v)] 1)))
    else bif Nat.beq n 1 then some (.tup [.sc (.bool false)],H)else none
 |_=>none
def SO (H:Hp) (x:AV):Option (AV×Hp):=
 match x with
 | .ptr i off=>bif Nat.beq off 0 then(match H.get i with
   |some (.miter es n)=>nextE H i es n
   |_=>none)else none
 |_=>none
def SP (es:List (Value×AV)) (n:Nat):Option AV:=
 match es with
 | [(k,v)]=>bif Nat.beq n 1 then some (.tup [ofV k,v])else none
 |_=>none
def Kf (H:Hp) (x:AV):Option AV:=
 match x with
 | .ptr i off=>bif Nat.beq off 0 then(match H.get i with
   |some (.miter es n)=>SP es n
   |_=>none)else none
 |_=>none
def NM (H:Hp) (x:AV) (isS:Bool):Option (AV×Hp):=
 bif isS then
  (match x with
   | .ptr i off=>bif Nat.beq off 0 then(match H.get i with
     |some (.siter s pos kn)=>some (bif kn then nextK H i s pos.toNat else nextU H i s pos)
     |_=>none)else none
   |_=>none)
 else SO H x
def qr:AV->Option AV
 | .ptr i off=>some (.ptr i off)
 | .eptr cs=>some (.eptr cs)
 | .edat T d=>some (.edat T d)
 | .oel i T n off=>some (.oel i T n off)
 | .sc (.pointer (some a))=>some (.sc (.pointer (some a)))
 | .func f a b=>some (.func f a b)
 |_=>none
def jJ (place:Nat->Option (Nat×Nat)) (cells:List AV):List (Nat×AV)->Option (List AV)
 | []=>some cells
 | (i,v)::rest=>(place i).bind fun(off,size)=>(cellsOf v).bind fun vs=>
    if vs.length=size∧off+size≤cells.length then jJ place (setCells cells off vs) rest else none
def dQ (P:Program) (fs:List Field):Option (List (Nat×Nat)):=bE (fun f=>(sz P f.type).map fun s=>(f.offset,s)) fs
def Kg (P:Program) (T:TypeId) (parts:List (Nat×AV)):Option AV:=
 (ek P T).bind fun z=>(cellsOf z).bind fun zs=>
 match P.underlying T with
 |some (.struct fs)=>(dQ P fs.toList).bind fun pl=>(jJ (pl[·]?) zs parts).map .agg
 |some (.array _ e)=>(sz P e).bind fun s=>(jJ (fun i=>some (i*s,s)) zs parts).map .agg
 |_=>none
def repl {α:Type} (xs:List α):Nat->List α
 |0=>[]
 |n+1=>xs++repl xs n
def fk (P:Program) (T:TypeId) (len:Nat) (parts:List (Nat×AV)) (H:Hp):Option (AV×Hp):=
 match P.underlying T with
 |some (.slice e)=>(sz P e).bind fun s=>(ek P e).bind fun z=>(cellsOf z).bind fun zs=>
   if zs.length=s∧0<s∧len*s≤16777216 then
    (jJ (fun i=>some (i*s,s)) (repl zs len) parts).map fun cs=>(.sl H.n s 0 len,H.push (.cells cs))
   else none
 |_=>none
def eq (P:Program) (T:TypeId) (l c:AV) (H:Hp):Option (AV×Hp):=
 match P.underlying T,l,c with
 |some (.slice e), .sc (.int _ n), .sc (.int _ m)=>(P.info? e).bind fun info=>(ek P e).bind fun z=>(cellsOf z).bind fun zs=>
   if zs.length=info.size∧0<info.size∧0≤n∧n≤m∧m<9223372036854775808∧info.bytes*m≤281474976710656 then
    some (.sl H.n info.size 0 n.toNat,H.push (.cells (repl zs m.toNat)))
   else none
 |_,_,_=>none
def bigN:AV->Bool
 | .sc (.int _ n)=>Nat.blt 64 n.toNat
 |_=>false
def nO (P:Program) (T:TypeId) (l c:AV) (H:Hp):Option (AV×Hp):=
 match P.underlying T with
 |some (.slice e)=>(numOf l).bind fun n=>(numOf c).bind fun _=>(P.info? e).bind fun info=>(ek P e).bind fun z=>(cellsOf z).bind fun zs=>
   bif Nat.beq info.size (PG.cellsOf e)&&Nat.blt 0 info.size&&Nat.beq zs.length info.size&&layOk PG rowDepth e then
    (avD dm e (cD e zs)).bind fun d=>some (.osl H.n e n,H.push (.lst e (J9 n d)))
   else none
 |_=>none
def orMk (x y:Option (AV×Hp)):Option (AV×Hp):=
 match x with
 |some p=>some p
 |none=>y
def Db (clr:Bool) (P:Program) (T:TypeId) (l c:AV) (H:Hp):Option (AV×Hp):=orMk (bif clr&&bigN l then none else eq P T l c H) (nO P T l c H)
def t6 (clr:Bool) (P:Program) (T:TypeId) (l c:AV) (H:Hp):List Bool:=
 match(bif clr&&bigN l then none else eq P T l c H)with
 |some _=>[]
 |none=>(match numOf l,numOf c with
  |some n,some m=>[ab .leq 0 n,ab .leq n m,cA m (match P.underlying T with|some (.slice e)=>(match P.info? e with|some info=>info.bytes|none=>0)|_=>0)]
  |_,_=>[])
def rowsOf (z:Nat) (H:Hp):AV->Option (List AV×Nat)
 | .sl i z' off len=>(getB H i).bind fun cs=>if z'=z∧off+len*z≤cs.length then some ((cs.drop off).take (len*z),len)else none
 | .esl xs=>if xs.all (fun x=>x.length==z)then some (xs.flatten,xs.length)else none
 | .sc (.slice none 0 0)=>some ([],0)
 | .e0=>some ([],0)
 |_=>none
def vF (P:Program) (S:TypeId):Bool:=
 match P.underlying S with
 |some (.slice _)=>true
 |_=>false
def qs:List AV->Option (List Int)
 | []=>some []
 | .sc (.int .u8 n)::r=>(qs r).map (n :: ·)
 |_=>none
def qt:List AV->Option (List D)
 | []=>some []
 | .sc (.int .u8 n)::r=>(qt r).map (.int n :: ·)
 | .ui .u8 n::r=>(qt r).map (.int n :: ·)
 |_=>none
def sv (P:Program) (H:Hp) (src dst:TypeId) (x:AV):Option AV:=
 match P.underlying src,P.underlying dst with
 |some (.slice e),some .string=>(match P.underlying e,x with
  |some (.int .u8), .sl _ _ _ _=>(rowsOf 1 H x).bind fun p=>gm ((qs p.1).map fun ns=> .sc (.string (ns.foldl (fun r n=>r.push (UInt8.ofNat n.toNat)) ByteArray.empty))) ((qt p.1).map fun ds=> .us (SL (.list ds)))
  |_,_=>none)
 |_,_=>none
def oE (P:Program) (H:Hp) (src dst:TypeId) (x:AV):Option AV:=gm (Bk P src dst x) (sv P H src dst x)
def qu (P:Program) (H:Hp) (src dst:TypeId) (x:AV):Option (AV×Hp):=
 match vE P src dst x with
 |some v=>some (v,H)
 |none=>(oE P H src dst x).bind fun v=>some (v,H)
def iJ (P:Program) (sT:TypeId) (s x:AV) (H:Hp):Option (AV×Hp):=
 match P.underlying sT with
 |some (.slice e)=>(P.info? e).bind fun info=>(ek P e).bind fun z=>(cellsOf z).bind fun zs=>(rowsOf info.size H x).bind fun p=>
  if info.size=0∨zs.length≠info.size∨p.1.all one=false then none else
  match s with
  | .sc (.slice none 0 0)=>
    if p.2=0 then some (s,H)else
    if p.2*info.bytes≤140737488355328∧p.2≤4611686018427387904 then some (.sl H.n info.size 0 p.2,H.push (.cells p.1))else none
  | .e0=>
    if p.2=0 then some (s,H)else
    if p.2*info.bytes≤140737488355328∧p.2≤4611686018427387904 then some (.sl H.n info.size 0 p.2,H.push (.cells p.1))else none
  | .sl i z off len=>(getB H i).bind fun cs=>
    if z=info.size∧off=0∧len*z≤cs.length then
     (if p.2=0 then some (s,H)else
      if(len+p.2)*info.bytes≤140737488355328∧len+p.2≤4611686018427387904 then some (.sl H.n z 0 (len+p.2),(H.put i none).push (.cells (cs.take (len*z)++p.1)))else none)
    else none
  |_=>none
 |_=>none
def orP {α:Type} (x y:Option α):Option α:=
 match x with
 |some a=>some a
 |none=>y
def lenP (P:Program) (T:TypeId) (x:AV):Option AV:=
 match P.underlying T,x with
 |some (.slice _), .sl _ _ _ len=>some (.sc (.int .i64 len))
 |some (.slice _), .esl xs=>some (.sc (.int .i64 xs.length))
 |some (.slice _), .sc (.slice none 0 0)=>some (.sc (.int .i64 0))
 |some (.slice _), .e0=>some (.sc (.int .i64 0))
 |some .string, .sc (.string s)=>some (.sc (.int .i64 s.size))
 |some (.slice _), .rows _ d=>some (.ui .i64 (ae d))
 |some (.slice _), .rowz _ d=>some (.ui .i64 (ae d))
 |some (.slice _), .osl _ _ m=>some (.ui .i64 m)
 |some .string, .us s=>some (.ui .i64 (fB s))
 |some (.map _ _), .emap es=>some (.sc (.int .i64 es.length))
 |some (.array n _),_=>some (.sc (.int .i64 n))
 |_,_=>none
def lenM (P:Program) (T:TypeId) (es:List (Value×AV)):Option AV:=
 match P.underlying T with
 |some (.map _ _)=>some (.sc (.int .i64 es.length))
 |_=>none
def lenU (P:Program) (T:TypeId) (d:D):Option AV:=
 match P.underlying T with
 |some (.map _ _)=>some (.ui .i64 (ae d))
 |_=>none
def vG (P:Program) (T:TypeId) (H:Hp) (x:AV):Option AV:=
 match x with
 | .map i=>(match H.get i with
   |some (.map es)=>lenM P T es
   |some (.mp _ _ d)=>lenU P T d
   |_=>none)
 |x=>lenP P T x
def SQ (P:Program) (T:TypeId) (d x:AV) (H:Hp):Option (AV×Hp):=
 match P.underlying T,d with
 |some (.slice e), .sl i z off len=>(sz P e).bind fun s=>(rowsOf s H x).bind fun(src,n)=>(getB H i).bind fun cs=>
   if z=s∧off+(min n len)*s≤cs.length∧(src.take ((min n len)*s)).all one=true∧n*s=src.length then
    some (.sc (.int .i64 (min n len:Nat)),H.put i (some (.cells (setCells cs off (src.take ((min n len)*s))))))
   else none
 |_,_=>none
def gp:TypeDesc->Value->Bool
 | .int k, .int k' _=>k==k'
 | .string, .string _=>true
 | .bool, .bool _=>true
 |_,_=>false
def Kh (k:IntKind):Value->Bool
 | .int k' _=>k==k'
 |_=>false
def gG (P:Program) (kd:TypeDesc) (v:Value):Bool:=
 match kd,v with
 | .array m e, .agg cs=>(match P.underlying e,sz P e with
   |some (.int k),some 1=>Nat.beq cs.size m&&cs.toList.all (Kh k)
   |_,_=>false)
 |_,_=>false
def dM (P:Program) (kd:TypeDesc) (v:Value):Bool:=gp kd v||gG P kd v
def kC:List Value->List Value->Bool
 | [],[]=>true
 | .int _ a::r, .int _ b::s=>a==b&&kC r s
 |_,_=>false
def vH:List AV->Option (List Value)
 | []=>some []
 | .sc v::r=>(vH r).map (v :: ·)
 |_=>none
def keyV:AV->Option Value
 | .sc v=>some v
 | .agg cs=>(vH cs).map fun vs=> .agg vs.toArray
 |_=>none
def c6:Value->Value->Bool
 | .agg a, .agg b=>kC a.toList b.toList
 | .int _ a, .int _ b=>a==b
 | .string a, .string b=>a==b
 | .bool a, .bool b=>a==b
 |_,_=>false
def gq (k:Value):List (Value×AV)->Option AV
 | []=>none
 | (k',v)::es=>bif c6 k k' then some v else gq k es
def jq (k:Value) (v:AV):List (Value×AV)->List (Value×AV)
 | []=>[(k,v)]
 | (k',v')::es=>bif c6 k k' then(k,v)::es else(k',v')::jq k v es
def FZ:AV->Option (List (Value×AV))
 | .emap es=>some es
 | .sc (.map none)=>some []
 |_=>none
def entriesOf (H:Hp):AV->Option (List (Value×AV))
 | .map i=>getM H i
 |x=>FZ x
def eZ (P:Program) (T:TypeId) (ok:Bool) (x k:AV) (H:Hp):Option AV:=
 match P.underlying T,keyV k with
 |some (.map kT eT),some kv=>(P.underlying kT).bind fun kd=>(entriesOf H x).bind fun es=>
   if dM P kd kv∧es.all (fun e=>dM P kd e.1)=true then
    (ek P eT).bind fun z=>
     match gq kv es with
     |some v=>some (bif ok then .tup [v, .sc (.bool true)]else v)
     |none=>some (bif ok then .tup [z, .sc (.bool false)]else z)
   else none
 |_,_=>none
def kD (P:Program) (T:TypeId) (x k v:AV) (H:Hp):Option Hp:=
 match P.underlying T,keyV k,x with
 |some (.map kT _),some kv, .map i=>(P.underlying kT).bind fun kd=>(getM H i).bind fun es=>
   if dM P kd kv∧es.all (fun e=>dM P kd e.1)=true then some (H.put i (some (.map (jq kv v es))))else none
 |_,_,_=>none
def kvD (kT:TypeId) (d:D):Value:=
 match PG.underlying kT with
 |some (.int k)=> .int k d.toInt
 |some .string=> .string d.toStr
 |some .bool=> .bool d.toBool
 |some (.array m e)=>(match PG.underlying e with
  |some (.int k)=> .agg ((List.range m).map fun j=>Value.int k (d.fld j).toInt).toArray
  |_=>undef)
 |_=>undef
def jK (T:TypeId) (d:D):AV:=
 match PG.underlying T with
 |some (.int k)=> .ui k (ah d)
 |some .bool=> .ub (aQ d)
 |some .string=> .us (aB d)
 |some (.slice e)=> .rows e d
 |some (.struct _)=> .dat T d
 |some (.array _ _)=> .dat T d
 |_=> .undef
def Dc (T:TypeId) (x:AV):Option D:=
 match x with
 | .esl _=>none
 |x=>bif layOk PG rowDepth T&&fE PG rowDepth T then avD dm T x else none
def oF (P:Program) (kT:TypeId):Bool:=
 match P.underlying kT,PG.underlying kT with
 |some (.int k),some (.int k')=>k==k'
 |some .string,some .string=>true
 |some .bool,some .bool=>true
 |some (.array m e),some (.array m' e')=>Nat.beq m m'&&(match P.underlying e,PG.underlying e',sz P e with
  |some (.int k),some (.int k'),some 1=>k==k'&&Nat.beq (PG.cellsOf e') 1
  |_,_,_=>false)
 |_,_=>false
def NN (kT:TypeId) (v:Value):Option D:=
 match PG.underlying kT,v with
 |some (.int k), .int k' n=>bif k==k' then some (.int n)else none
 |some .string, .string s=>some (.str s)
 |some .bool, .bool b=>some (.bool b)
 |_,_=>none
def vI (kT vT:TypeId) (es:List (Value×AV)):Option D:=
 (bE (fun e=>(NN kT e.1).bind fun k=>(Dc vT e.2).map fun v=>D.agg [k,v]) es).map .list
def Ki (H:Hp) (i:Nat) (kT vT:TypeId):Option D:=
 match H.get i with
 |some (.mp k v d)=>bif Nat.beq k kT&&Nat.beq v vT then some d else none
 |some (.map es)=>vI kT vT es
 |_=>none
def nl (kT:TypeId) (k:D) (xs:List D):Option D:=(xs.find? fun x=>c6 (kvD kT k) (kvD kT (x.fld 0))).map fun x=>x.fld 1
def F0 (kT:TypeId) (m k:D):Bool:=(nl kT k m.toList).isSome
def vJ (kT:TypeId) (z m k:D):D:=(nl kT k m.toList).getD z
def AB (kT:TypeId) (k v:D):List D->List D
 | []=>[.agg [k,v]]
 |x::xs=>bif c6 (kvD kT k) (kvD kT (x.fld 0))then .agg [k,v]::xs else x::AB kT k v xs
def sw:TypeId->D->D->Bool:=veil F0
def lr:TypeId->D->D->D->D:=veil vJ
def dN:TypeId->D->D->D->D:=veil fun kT m k v=> .list (AB kT k v m.toList)
def iK (P:Program) (T:TypeId) (ok:Bool) (x k:AV) (H:Hp):Option AV:=
 match P.underlying T,x with
 |some (.map kT eT), .map i=>(Ki H i kT eT).bind fun d=>bif oF P kT then
   (Dc kT k).bind fun kd=>(ek P eT).bind fun z=>(Dc eT z).bind fun zd=>
    some (bif ok then .tup [jK eT (lr kT zd d kd), .ub (sw kT d kd)]else jK eT (lr kT zd d kd))else none
 |some (.map kT eT), .sc (.map none)=>bif oF P kT then(Dc kT k).bind fun _=>(ek P eT).bind fun z=>some (bif ok then .tup [z, .sc (.bool false)]else z)else none
 |_,_=>none
def kE (P:Program) (T:TypeId) (ok:Bool) (x k:AV) (H:Hp):Option AV:=gm (eZ P T ok x k H) (iK P T ok x k H)
def nP (P:Program) (T:TypeId) (x k v:AV) (H:Hp):Option Hp:=
 match P.underlying T,x with
 |some (.map kT eT), .map i=>(Ki H i kT eT).bind fun d=>bif oF P kT then
   (Dc kT k).bind fun kd=>(Dc eT v).bind fun vd=>some (H.put i (some (.mp kT eT (dN kT d kd vd))))else none
 |_,_=>none
def nQ (P:Program) (T:TypeId) (x k v:AV) (H:Hp):Option Hp:=
 match kD P T x k v H with
 |some H'=>some H'
 |none=>nP P T x k v H
def aA:Nat:=12
def SR (v:Value):Option AV:=some (.sc v)
def ck (H:Hp):Nat->AV->Option AV
 |0,_=>none
 |n+1,x=>
  match x with
  | .undef=>some .undef
  | .sc v=>SR v
  | .ptr i off=>gm (nM H i off) ((getB H i).bind fun cs=>(bE (ck H n) (cs.drop off)).map .eptr)
  | .sl i z off len=>(getB H i).bind fun cs=>if off+len*z≤cs.length then(bE (ck H n) ((cs.drop off).take (len*z))).map fun cs=> .esl (chunks z len cs)else none
  | .map i=>(getM H i).bind fun es=>(bE (fun e=>(ck H n e.2).map fun v=>(e.1,v)) es).map .emap
  | .func f a b=>(bE (ck H n) a).bind fun a=>(bE (ck H n) b).map fun b=> .func f a b
  | .agg cs=>(bE (ck H n) cs).map .agg
  | .tup cs=>(bE (ck H n) cs).map .tup
  | .osl i T _=>(getL H i).bind fun q=>bif Nat.beq q.1 T then some (.rows T q.2)else none
  | .oel _ _ _ _=>none
  | .nx _ _ _=>none
  |x=>some x
def jr (H:Hp):AV->List Bool
 | .osl i _ m=>(match getL H i with|some q=>[ab .eql m (ae q.2)]|none=>[])
 |_=>[]
def bu (H:Hp):Nat->AV->List Bool
 |0,_=>[]
 |n+1,x=>
  match x with
  | .ptr i off=>(match getB H i with|some cs=>((cs.drop off).map (bu H n)).flatten|none=>[])
  | .sl i z off len=>(match getB H i with|some cs=>(((cs.drop off).take (len*z)).map (bu H n)).flatten|none=>[])
  | .map i=>(match getM H i with|some es=>(es.map fun e=>bu H n e.2).flatten|none=>[])
  | .func _ a b=>(a.map (bu H n)).flatten++(b.map (bu H n)).flatten
  | .agg cs=>(cs.map (bu H n)).flatten
  | .tup cs=>(cs.map (bu H n)).flatten
  | .osl i T m=>jr H (.osl i T m)
  |_=>[]
def bP (H:Hp):Nat->AV->Bool
 |0,_=>false
 |n+1,x=>
  match x with
  | .undef=>true
  | .sc _=>true
  | .ptr i off=>bif (datB H i).isSome then false else match getB H i with|some cs=>(cs.drop off).all (bP H n)|none=>false
  | .sl i z off len=>match getB H i with|some cs=>((cs.drop off).take (len*z)).all (bP H n)|none=>false
  | .map i=>match getM H i with|some es=>es.all (fun e=>bP H n e.2)|none=>false
  | .func _ a b=>a.all (bP H n)&&b.all (bP H n)
  | .agg cs=>cs.all (bP H n)
  | .tup cs=>cs.all (bP H n)
  | .eptr _=>false
  | .esl xs=>xs.isEmpty
  | .emap _=>false
  | .ui _ _=>true
  | .ub _=>true
  | .us _=>true
  | .rows _ _=>false
  | .dat _ _=>false
  | .edat _ _=>false
  | .rowz _ _=>false
  | .osl _ _ _=>false
  | .oel _ _ _ _=>false
  | .e0=>true
  | .anyI _=>true
  | .nx _ _ _=>false
def df:Nat->AV->Bool
 |0,_=>false
 |n+1,x=>
  match x with
  | .ptr _ _=>false
  | .sl _ _ _ _=>false
  | .map _=>false
  | .osl _ _ _=>false
  | .oel _ _ _ _=>false
  | .nx _ _ _=>false
  | .func _ a b=>a.all (df n)&&b.all (df n)
  | .agg cs=>cs.all (df n)
  | .tup cs=>cs.all (df n)
  |_=>true
def tch (H:Hp):Nat->AV->List Nat
 |0,_=>[]
 |n+1,x=>
  match x with
  | .ptr i off=>i::(match getB H i with|some cs=>((cs.drop off).map (tch H n)).flatten|none=>[])
  | .sl i z off len=>i::(match getB H i with|some cs=>(((cs.drop off).take (len*z)).map (tch H n)).flatten|none=>[])
  | .map i=>i::(match getM H i with|some es=>(es.map fun e=>tch H n e.2).flatten|none=>[])
  | .func _ a b=>(a.map (tch H n)).flatten++(b.map (tch H n)).flatten
  | .agg cs=>(cs.map (tch H n)).flatten
  | .tup cs=>(cs.map (tch H n)).flatten
  | .osl i _ _=>[i]
  | .oel i _ _ _=>[i]
  |_=>[]
def fG (H:Hp) (n:Nat) (xs:List AV):List Nat:=(xs.map (tch H n)).flatten
def Qi (e:TypeId) (H:Hp) (x:AV):Option D:=
 match x with
 | .rows T d=>bif Nat.beq T e then some d else none
 | .rowz T d=>bif Nat.beq T e then some d else none
 | .osl j _ _=>(getL H j).bind fun q=>bif Nat.beq q.1 e then some q.2 else none
 |x=>(rowsOf (PG.cellsOf e) H x).bind fun p=>(bE (ck H aA) p.1).bind fun cs=>(bE (fun cs=>avD dm e (cD e cs)) (chunks (PG.cellsOf e) p.2 cs)).map .list
def bJ (e:TypeId) (H:Hp) (x:AV):List AV:=
 match x with
 | .rows _ _=>[]
 | .rowz _ _=>[]
 | .osl _ _ _=>[]
 |x=>match rowsOf (PG.cellsOf e) H x with|some p=>p.1|none=>[]
def kill:List Nat->Hp->Hp
 | [],H=>H
 |i::is,H=>kill is (H.put i none)
def SS (H:Hp) (x:AV):Option (AV×Hp):=
 match ck H aA x with
 |some (.emap es)=>bif (bu H aA x).isEmpty then some (.ptr H.n 0,(kill (tch H aA x) H).push (.miter es 0))else none
 |_=>none
def vK (P:Program) (H:Hp) (T:TypeId) (x:AV):Option (AV×Hp):=
 match P.underlying T with
 |some (.map _ _)=>(match x with
  | .emap es=>some (.ptr H.n 0,H.push (.miter es 0))
  | .sc (.map none)=>some (.ptr H.n 0,H.push (.miter [] 0))
  | .map i=>SS H (.map i)
  |_=>none)
 |some .string=>(match x with
  | .sc (.string s)=>some (.ptr H.n 0,H.push (.siter s 0 true))
  | .us s=>some (.ptr H.n 0,H.push (.siter s 0 false))
  |_=>none)
 |_=>none
def jL (e:TypeId) (src:D) (d0:Option D) (s:AV) (H:Hp):Option (AV×Hp):=
 match s with
 | .sc (.slice none 0 0)=>some (.osl H.n e (ae src),H.push (.lst e src))
 | .e0=>some (.osl H.n e (ae src),H.push (.lst e src))
 | .sl i z off _=>bif Nat.beq off 0&&Nat.beq z (PG.cellsOf e)then d0.bind fun d=>(getB H i).bind fun _=>some (.osl H.n e (ae (bG d src)),(H.put i none).push (.lst e (bG d src)))else none
 | .osl i T _=>(getL H i).bind fun q=>bif Nat.beq T e&&Nat.beq q.1 e then some (.osl H.n e (ae (bG q.2 src)),(H.put i none).push (.lst e (bG q.2 src)))else none
 |_=>none
def f9 (P:Program) (sT:TypeId) (s x:AV) (H:Hp):Option (AV×Hp):=
 match P.underlying sT with
 |some (.slice e)=>(P.info? e).bind fun info=>(ek P e).bind fun z=>(cellsOf z).bind fun zs=>
  bif Nat.beq info.size (PG.cellsOf e)&&Nat.blt 0 info.size&&Nat.beq zs.length info.size&&layOk PG rowDepth e&&fE PG rowDepth e then
   (Qi e H x).bind fun src=>jL e src (Qi e H s) s (kill (fG H aA (bJ e H x++bJ e H s)) H)
  else none
 |_=>none
def kF:AV->Bool
 | .sc (.slice none 0 0)=>true
 | .e0=>true
 |_=>false
def iL (P:Program) (sT:TypeId) (xT:TypeId) (s x:AV) (H:Hp):Option (AV×Hp):=
 match P.underlying sT,P.underlying xT with
 |some (.slice e),some (.int _)=>(P.info? e).bind fun info=>(ek P e).bind fun z=>(cellsOf z).bind fun zs=>(vy x).bind fun n=>
  if info.size=0∨zs.length≠info.size∨kF s=false then none else
   if n=0 then some (s,H)else
   if n*info.bytes≤140737488355328∧n≤4611686018427387904 then some (.sl H.n info.size 0 n,H.push (.cells (repl zs n)))else none
 |_,_=>none
def jM (P:Program) (sT:TypeId) (xT:TypeId) (s x:AV) (H:Hp):Option (AV×Hp):=
 match P.underlying sT,P.underlying xT with
 |some (.slice e),some (.int _)=>(numOf x).bind fun n=>(P.info? e).bind fun info=>(ek P e).bind fun z=>(cellsOf z).bind fun zs=>
   bif kF s&&Nat.beq info.size (PG.cellsOf e)&&Nat.blt 0 info.size&&Nat.beq zs.length info.size&&layOk PG rowDepth e then
    (avD dm e (cD e zs)).bind fun d=>some (.osl H.n e n,H.push (.lst e (J9 n d)))
   else none
 |_,_=>none
def nR (P:Program) (sT xT:TypeId) (s x:AV) (H:Hp):List Bool:=
 if xT=sT then[]else
  match iL P sT xT s x H with
  |some _=>[]
  |none=>(match numOf x with
   |some n=>[ab .lss 0 n,cA n (match P.underlying sT with|some (.slice e)=>(match P.info? e with|some info=>info.bytes|none=>0)|_=>0)]
   |none=>[])
def g6 (P:Program) (H:Hp):List AV->List TypeId->List Bool
 | [s,x],[T,T']=>(match iJ P T s x H with
   |some _=>[]
   |none=>(match f9 P T s x H with
    |some (.osl _ _ m,_)=>jr H s++jr H x++((match P.underlying T with|some (.slice e)=>bJ e H x++bJ e H s|_=>[]).map (bu H aA)).flatten ++ [cA m (match P.underlying T with|some (.slice e)=>(match P.info? e with|some info=>info.bytes|none=>0)|_=>0)]
    |_=>[]))++nR P T T' s x H
 |_,_=>[]
structure FnA where
 code:Code
 ntmps:Nat
 results:List ResultVar
inductive Out where
 |norm (fr:Fr) (H:Hp)
 |exit (i:Nat) (fr:Fr) (H:Hp)
 |ret (fr:Fr) (H:Hp)
 |goto (l:Nat) (fr:Fr) (H:Hp)
inductive Ot where
 |fail
 |leaf (o:Out)
 |br (b:Bool) (x y:Ot)
def Out.go {R:Type} (kn:Fr->Hp->Option R) (kx:Nat->Fr->Hp->Option R) (kr:Fr->Hp->Option R) (kg:Nat->Fr->Hp->Option R):Out->Option R
 | .norm fr H=>kn fr H
 | .exit i fr H=>kx i fr H
 | .ret fr H=>kr fr H
 | .goto l fr H=>kg l fr H
def Ot.go {R:Type} (kn:Fr->Hp->Option R) (kx:Nat->Fr->Hp->Option R) (kr:Fr->Hp->Option R) (kg:Nat->Fr->Hp->Option R):Ot->Option R
 | .fail=>none
 | .leaf o=>o.go kn kx kr kg
 | .br b x y=>bif b then x.go kn kx kr kg else y.go kn kx kr kg
structure Env where
 P:Program
 fn:FuncId->Option FnA
 isPure:FuncId->Bool
 isFrz:FuncId->Bool:=fun _=>false
 exc:List (Nat×Nat):=[]
 exi:List (Nat×Nat):=[]
 clr:Bool
 pre:FuncId->List AV->Hp->List Bool
 lp:Nat->Code->Option (Fr->Hp->Ot)
 n0:Nat
def inP (a b:Nat):List (Nat×Nat)->Bool
 | []=>false
 |p::ps=>bif Nat.beq p.1 a&&Nat.beq p.2 b then true else inP a b ps
abbrev Rec:=FuncId->List AV->Hp->Option (AV×Hp)
def gr (r:Rec) (H0:Hp) (f:FuncId) (args:List AV):Option (AV×Bool):=
 (r f args H0).bind fun(v,Hc)=>bif (bu Hc aA v).isEmpty then(ck Hc aA v).map fun v'=>(v',bP Hc aA v)else none
def iM (env:Env) (r:Rec) (f:FuncId) (args:List AV) (H:Hp):Option (AV×Hp):=
 bif env.isPure f then
  (bE (ck H aA) args).bind fun args'=>(gr r H.fresh f args').bind fun(v,fl)=>
   bif args.all (df aA)||fl then some (v,H)else none
 else bif env.isFrz f then
  (bE (ck H aA) args).bind fun args'=>(gr r H.fresh f args').bind fun(v,_)=>some (v,kill (fG H aA args) H)
 else r f args H
def vL (env:Env) (r:Rec) (g:AV) (args:List AV) (H:Hp):Option (AV×Hp):=
 match g with
 | .func f a b=>iM env r f (a++args++b) H
 |_=>none
def gV (env:Env) (f:FuncId) (args:List AV) (H:Hp):List Bool:=
 bif env.isPure f then(args.map (bu H aA)).flatten++(match bE (ck H aA) args with|some args'=>env.pre f args' H.fresh|none=>[])
 else bif env.isFrz f then(args.map (bu H aA)).flatten++(match bE (ck H aA) args with|some args'=>env.pre f args' H.fresh|none=>[])
 else env.pre f args H
def oG (env:Env) (g:AV) (args:List AV) (H:Hp):List Bool:=
 match g with
 | .func f a b=>gV env f (a++args++b) H
 |_=>[]
def vA (H:Hp) (x:Option AV):Option (AV×Hp):=x.bind fun x=>some (x,H)
def uA (x:Option Hp):Option (AV×Hp):=x.bind fun H=>some (uv,H)
def NO (x:AV) (cs:List AV):Blk:=
 match x with
 | .dat T d=> .dat T d
 |_=> .cells cs
def boxA (H:Hp) (x:AV):Option (AV×Hp):=(cellsOf x).bind fun cs=>some (.ptr H.n 0,H.push (NO x cs))
def Dd (P:Program) (H:Hp) (T:TypeId):Option (AV×Hp):=(ek P T).bind fun z=>(cellsOf z).bind fun cs=>some (.ptr H.n 0,H.push (.cells cs))
def vM (H:Hp):Option Operand->Option (AV×Hp)
 |none=>some (.map H.n,H.push (.map []))
 |some _=>none
def mO (H:Hp) (first cap:List AV):Fn->Option (AV×Hp)
 | .func f=>some (.func f first cap,H)
 |_=>none
def jt (fr:Fr) (parts:Array (Nat×Operand)):List (Nat×AV):=parts.toList.map fun p=>(p.1,opd fr p.2)
def capA (P:Program) (T:TypeId) (x:AV):Option AV:=
 match P.underlying T,x with
 |some (.slice _), .sc (.slice none 0 0)=>some (.sc (.int .i64 0))
 |some (.slice _), .e0=>some (.sc (.int .i64 0))
 |_,_=>none
def NP (P:Program) (H:Hp):List AV->List TypeId->Option (AV×Hp)
 | [x],[T]=>vA H (capA P T x)
 |_,_=>none
def F1 (P:Program) (H:Hp):List AV->List TypeId->Option (AV×Hp)
 | [x],[T]=>vA H (vG P T H x)
 |_,_=>none
def vN (P:Program) (H:Hp):List AV->List TypeId->Option (AV×Hp)
 | [s,x],[T,T']=>if T'=T then orP (iJ P T s x H) (f9 P T s x H)else orP (iL P T T' s x H) (jM P T T' s x H)
 |_,_=>none
def ST (P:Program) (H:Hp):List AV->List TypeId->Option (AV×Hp)
 | [d,x],[T,_]=>SQ P T d x H
 |_,_=>none
def mmA (op:BinOp) (x y:AV):Option AV:=
 match x,y with
 | .ui k a, .ui k' b=>if k=k' then some (.ui k (qmm op a b))else none
 | .sc (.int k a), .ui k' b=>if k=k' then some (.ui k (qmm op a b))else none
 | .ui k a, .sc (.int k' b)=>if k=k' then some (.ui k (qmm op a b))else none
 |_,_=>none
def NQ (P:Program) (H:Hp) (ts:Array TypeId) (ty:TypeId):List AV->Option (AV×Hp)
 | [.sc a, .sc b]=>vA H ((bR P (Builtin.min_ ts ty #[a,b])).map ofV)
 | [x,y]=>vA H (mmA .lss x y)
 |_=>none
def NR (P:Program) (H:Hp) (ts:Array TypeId) (ty:TypeId):List AV->Option (AV×Hp)
 | [.sc a, .sc b]=>vA H ((bR P (Builtin.max_ ts ty #[a,b])).map ofV)
 | [x,y]=>vA H (mmA .gtr x y)
 |_=>none
def dY (P:Program) (H:Hp) (b:Builtin) (args:List AV) (ts:Array TypeId) (ty:TypeId):Option (AV×Hp):=
 match b with
 | .len=>F1 P H args ts.toList
 | .cap=>NP P H args ts.toList
 | .append=>vN P H args ts.toList
 | .copy=>ST P H args ts.toList
 | .min=>NQ P H ts ty args
 | .max=>NR P H ts ty args
 |_=>none
def ju (env:Env) (r:Rec) (fr:Fr) (H:Hp) (c:Call) (ty:TypeId):Option (AV×Hp):=
 match c.callee with
 | .value g=>vL env r (opd fr g) (c.args.toList.map (opd fr)) H
 | .builtin b=>dY env.P H b (c.args.toList.map (opd fr)) c.argTypes ty
 |_=>none
def t7 (P:Program) (fr:Fr) (H:Hp) (T:TypeId) (x:Operand) (lo hi mx:Option Operand):Option AV:=
 kB P H T (opd fr x) (lo.map (opd fr)) (hi.map (opd fr)) (mx.map (opd fr))
def obl (env:Env) (fr:Fr) (H:Hp):Op->List Bool
 | .binOp op _ x y _=>jn op (opd fr x) (opd fr y)
 | .slice _ x lo hi mx=>(match mx with|none=>eo (opd fr x) (lo.map (opd fr)) (hi.map (opd fr))|some m=>mN (opd fr x) (hi.map (opd fr)) (opd fr m))
 | .indexAddr T x i=>gn env.P H T x (opd fr x) (opd fr i)
 | .index _ x i=>oC (opd fr x) (opd fr i)
 | .load _ a=>fF H (opd fr a)
 | .extract x i=>ie i (opd fr x)
 | .makeSlice T l c=>t6 env.clr env.P T (opd fr l) (opd fr c) H
 | .store _ a _=>fF H (opd fr a)
 | .call c=>(match c.callee with
   | .value g=>oG env (opd fr g) (c.args.toList.map (opd fr)) H
   | .builtin .append=>g6 env.P H (c.args.toList.map (opd fr)) c.argTypes.toList
   |_=>[])
 |_=>[]
def bS (env:Env) (r:Rec) (fr:Fr) (H:Hp) (ty:TypeId):Op->Option (AV×Hp)
 | .move x=>some (opd fr x,H)
 | .assign x=>some (opd fr x,H)
 | .pick c a b=>vA H (FY (opd fr c) (opd fr a) (opd fr b))
 | .alloc T=>Dd env.P H T
 | .box _ x=>boxA H (opd fr x)
 | .build T parts=>vA H (Kg env.P T (jt fr parts))
 | .buildSlice T len parts=>fk env.P T len (jt fr parts) H
 | .load T a=>vA H (eR env.P H T (opd fr a))
 | .store T a x=>uA (kw env.P H T (opd fr a) (opd fr x))
 | .nilCheck x=>vA H (qr (opd fr x))
 | .binOp op T x y _=>vA H (binA env.P op T (opd fr x) (opd fr y))
 | .unOp op _ x=>vA H (unA env.P op (opd fr x))
 | .convert s d x=>qu env.P H s d (opd fr x)
 | .makeFunc f first cap=>mO H (first.toList.map (opd fr)) (cap.toList.map (opd fr)) f
 | .makeMap _ m=>vM H m
 | .makeSlice T l c=>Db env.clr env.P T (opd fr l) (opd fr c) H
 | .slice T x lo hi mx=>vA H (t7 env.P fr H T x lo hi mx)
 | .fieldAddr s x f=>vA H (kA env.P s f (opd fr x))
 | .field T x f=>vA H (vx env.P T f (opd fr x))
 | .indexAddr T x i=>vA H (oB env.P H T x (opd fr x) (opd fr i))
 | .index T x i=>vA H (Ka env.P T (opd fr x) (opd fr i))
 | .lookup T x k ok=>vA H (kE env.P T ok (opd fr x) (opd fr k) H)
 | .mapUpdate T m k x=>uA (nQ env.P T (opd fr m) (opd fr k) (opd fr x) H)
 | .extract x i=>vA H (oD i (opd fr x))
 | .range T x=>vK env.P H T (opd fr x)
 | .next x b=>NM H (opd fr x) b
 | .entry x=>vA H (Kf H (opd fr x))
 | .call c=>ju env r fr H c ty
 |_=>none
def aU:List Bool->Bool
 | []=>true
 |b::bs=>bif b then aU bs else false
def eF (env:Env) (r:Rec) (fr:Fr) (H:Hp) (ty:TypeId) (op:Op):Option (AV×Hp):=
 bif aU (obl env fr H op)then bS env r fr H ty op else none
def cQ {R:Type} (x:Option R):List Bool->Option R
 | []=>x
 |b::bs=>bif b then cQ x bs else none
def opK {R:Type} (env:Env) (r:Rec) (fr:Fr) (H:Hp) (ty:TypeId) (op:Op) (k:AV×Hp->Option R):Option R:=
 cQ ((bS env r fr H ty op).bind k) (obl env fr H op)
def dB (fr:Fr) (dst:Option Tmp) (v:AV):Fr:=
 match dst with
 |some d=>fr.set d v
 |none=>fr
def frN {R:Type} (k:Nat->R):Nat->R
 |0=>k 0
 |n+1=>k (n+1)
def frI {R:Type} (k:Int->R):Int->R
 | .ofNat n=>frN (fun n=>k (.ofNat n)) n
 | .negSucc n=>frN (fun n=>k (.negSucc n)) n
def frV {R:Type} (k:Value->R):Value->R
 | .bool true=>k (.bool true)
 | .bool false=>k (.bool false)
 | .int kd n=>frI (fun n=>k (.int kd n)) n
 |v=>k v
def frL {α R:Type} (f:α->(α->R)->R):List α->(List α->R)->R
 | [],k=>k []
 |x::xs,k=>f x fun x=>frL f xs fun xs=>k (x::xs)
def frA {R:Type}:Nat->AV->(AV->R)->R
 |0,x,k=>k x
 |n+1,x,k=>
  match x with
  | .sc v=>frV (fun v=>k (.sc v)) v
  | .ptr i off=>frN (fun i=>frN (fun off=>k (.ptr i off)) off) i
  | .sl i z off len=>frN (fun i=>frN (fun z=>frN (fun off=>frN (fun len=>k (.sl i z off len)) len) off) z) i
  | .map i=>frN (fun i=>k (.map i)) i
  | .agg cs=>frL (frA n) cs fun cs=>k (.agg cs)
  | .tup cs=>frL (frA n) cs fun cs=>k (.tup cs)
  | .func f a b=>frL (frA n) a fun a=>frL (frA n) b fun b=>k (.func f a b)
  | .eptr cs=>frL (frA n) cs fun cs=>k (.eptr cs)
  | .osl i T m=>frN (fun i=>k (.osl i T m)) i
  |x=>k x
def frS {α R:Type}:List α->(List α->R)->R
 | [],k=>k []
 |x::xs,k=>frS xs fun xs=>k (x::xs)
def vO {R:Type} (clr:Bool) (fr:Fr) (dst:Option Tmp) (v:AV) (H:Hp) (k:Fr->Hp->R):R:=
 bif clr then k (dB fr dst v) H else frA 3 v fun v=>frS (dB fr dst v) fun fr=>k fr H
def lQ {R:Type} (u:Bool) (fr:Fr) (s:Nat) (want:Bool) (run skip:Fr->Option R):AV->Option R
 | .ub b=>bif u then(bif b then(bif want then run (fr.set s (.sc (.bool true)))else skip (fr.set s (.sc (.bool true))))
    else(bif want then skip (fr.set s (.sc (.bool false)))else run (fr.set s (.sc (.bool false)))))else none
 | .sc (.bool b)=>bif b then(bif want then run (fr.set s (.sc (.bool true)))else skip (fr.set s (.sc (.bool true))))
    else(bif want then skip (fr.set s (.sc (.bool false)))else run (fr.set s (.sc (.bool false))))
 | .sc (.tuple _)=>skip fr
 |_=>none
def vP (ops:Array Oper) (j:Nat):Nat:=((ops[j]?).bind (·.dst)).getD 1000000
def gW (ops:Array Oper):Option Nat->Bool
 |some d=>ops.toList.any fun o=>match o.guard with|some (j,_)=>Nat.beq (vP ops j) d|none=>false
 |none=>false
def tO {R:Type} (fl:Bool) (x:AV) (k:AV->Option R):Option R:=
 bif fl then(match x with
  | .ub b=>bif b then k (.sc (.bool true))else k (.sc (.bool false))
  |x=>k x)else k x
def dt {R:Type} (u:Bool) (env:Env) (r:Rec) (ops:Array Oper) (k:Fr->Hp->Option R):List Oper->Fr->Hp->Option R
 | [],fr,H=>k fr H
 |o::os,fr,H=>
  match o.guard with
  |none=>opK env r fr H o.type o.op fun p=>tO (!u&&gW ops o.dst) p.1 fun v=>vO env.clr fr o.dst v p.2 (dt u env r ops k os)
  |some (j,want)=>
   match(ops[j]?).bind (·.dst)with
   |none=>none
   |some s=>
    lQ u fr s want
     (fun fr=>opK env r fr H o.type o.op fun p=>tO (!u&&gW ops o.dst) p.1 fun v=>vO env.clr fr o.dst v p.2 (dt u env r ops k os))
     (fun fr=>vO env.clr fr o.dst uv H (dt u env r ops k os))
     (fr.getD s .undef)
def gH (P:Program) (T:TypeId):Bool:=
 match P.underlying T with
 |some (.map _ _)=>true
 |_=>false
def nS (P:Program):List TypeId->Bool
 | [T]=>(match P.underlying T with
   |some (.slice _)=>true
   |some .string=>true
   |some (.array _ _)=>true
   |_=>false)
 |_=>false
def cls (env:Env):Op->Nat
 | .move _=>0
 | .assign _=>0
 | .pick _ _ _=>0
 | .build _ _=>0
 | .binOp _ _ _ _ _=>0
 | .unOp _ _ _=>0
 | .convert S _ _=>bif vF env.P S then 1 else 0
 | .makeFunc _ _ _=>0
 | .slice _ _ _ _ _=>1
 | .fieldAddr _ _ _=>0
 | .field _ _ _=>0
 | .indexAddr _ x _=>(match x with | .global _=>1|_=>0)
 | .index _ _ _=>0
 | .extract _ _=>0
 | .nilCheck _=>0
 | .load _ _=>1
 | .lookup _ _ _ _=>1
 | .alloc _=>2
 | .box _ _=>2
 | .buildSlice _ _ _=>2
 | .makeMap _ _=>2
 | .makeSlice _ _ _=>2
 | .range T _=>bif gH env.P T then 3 else 2
 | .call c=>match c.callee with
   | .value (.func f)=>bif env.isPure f then 1 else 3
   | .builtin .len=>bif nS env.P c.argTypes.toList then 0 else 1
   | .builtin .cap=>0
   | .builtin .min=>0
   | .builtin .max=>0
   |_=>3
 |_=>3
def Kj (o:Oper):List Nat:=o.op.operands.toList.filterMap fun | .tmp t=>some t|_=>none
def eG (ops:Array Oper) (o:Oper):List Nat:=
 o.dst.toList++(match o.guard with|some (j,_)=>[vP ops j]|none=>[])++Kj o
def writesIn (o:Oper) (ns:List Nat):Bool:=match o.dst with|some d=>ns.elem d|none=>false
def gI:Op->Bool
 | .load _ (.tmp _)=>true
 | .slice _ (.tmp _) _ _ _=>true
 |_=>false
def qv:Op->Bool
 | .store _ (.tmp _) _=>true
 |_=>false
def nT (env:Env) (ops:Array Oper) (x y:Oper):Bool:=
 !(writesIn x (eG ops y)) && !(writesIn y (eG ops x)) &&
 (let a:=cls env x.op;let b:=cls env y.op
  (Nat.ble a 2&&Nat.ble b 2)||(Nat.beq a 0)||(Nat.beq b 0) ||
  (gI x.op&&Nat.beq b 3)||(Nat.beq a 3&&gI y.op)||(Nat.beq a 2&&qv y.op))
def De (s:List Nat):List Nat->List Nat
 | []=>s
 |x::xs=>De (bif s.elem x then s else x::s) xs
def t8 (acc:List (List Nat)) (s:List Nat):List Edge->List Nat
 | []=>s
 |e::es=>t8 acc (bif Region.binds .any e then De s (e.on::acc.getD e.on [])else s) es
def vQ (acc:List (List Nat)):List Oper->List (List Nat)
 | []=>acc
 |o::os=>vQ (acc ++ [t8 acc [] o.after.toList]) os
def iN (ops:Array Oper):List (List Nat):=vQ [] ops.toList
def SU (env:Env) (ops:Array Oper) (pr:List (List Nat)) (i j:Nat):Bool:=
 (pr.getD j []).elem i||(match ops[i]?,ops[j]? with|some x,some y=>nT env ops x y|_,_=>false)
def jN (ops:Array Oper):Bool:=
 (List.range ops.size).all fun j=>match ops[j]? with
  |some o=>o.after.toList.all fun e=> !(Region.binds .any e)||Nat.blt e.on j
  |none=>true
def fe (env:Env) (ops:Array Oper):Bool:=
 env.P.follows .mixedOrders&&jN ops&&(let pr:=iN ops;(List.range ops.size).all fun j=>(List.range j).all fun i=>SU env ops pr i j)
def fU (env:Env) (ops:Array Oper) (e:Nat):List Nat:=(List.range e).filter fun f=>match ops[f]? with|some x=>Nat.beq (cls env x.op) 3|none=>false
def isAl:Op->Bool
 | .alloc _=>true
 |_=>false
def SV (env:Env) (ops:Array Oper) (e:Nat):Bool:=
 match ops[e]? with
 |some o=>isAl o.op&&o.guard.isNone&&o.dst.isSome&&o.after.toList.all (fun x=> !(Region.binds .any x)) && !(fU env ops e).isEmpty
 |none=>false
def iO (env:Env) (ops:Array Oper):Option Nat:=(List.range ops.size).find? (SV env ops)
def cM (o:Oper) (l:List Nat):Oper:={o with after:=⟨o.after.toList++l.map fun f=>⟨f, .data⟩⟩}
def ca (env:Env) (ops:Array Oper):Array Oper:=
 match iO env ops with
 |none=>ops
 |some e=>match ops[e]? with
  |some o=>⟨ops.toList.set e (cM o (fU env ops e))⟩
  |none=>ops
def vR (o:Oper) (f:Nat):Bool:=o.after.toList.any fun x=>Region.binds .any x&&Nat.beq x.on f
def fixK (env:Env) (ops:Array Oper) (e s j:Nat):Bool:=
 match ops[j]? with
 |some o=>Nat.beq j e||((!(vR o e)||(fU env ops e).all (vR o)) && !(o.dst==some s))
 |none=>true
def sx (env:Env) (ops:Array Oper):Bool:=
 match iO env ops with
 |none=>true
 |some e=>match(ops[e]?).bind (·.dst)with
  |some s=>(List.range ops.size).all (fixK env ops e s)
  |none=>false
def nn (env:Env) (ops:Array Oper):Option Nat:=(iO env ops).bind fun e=>(ops[e]?).bind (·.dst)
def Df (env:Env) (ops:Array Oper) (fr:Fr):Fr:=
 match nn env ops with
 |some s=>fr.set s .undef
 |none=>fr
def vEq:Value->Value->Bool
 | .bool a, .bool b=>a==b
 | .int k a, .int k' b=>decide (k=k')&&decide (a=b)
 | .string a, .string b=>decide (a.data.toList=b.data.toList)
 | .pointer none, .pointer none=>true
 | .pointer (some a), .pointer (some b)=>decide (a=b)
 | .slice none l c, .slice none l' c'=>Nat.beq l l'&&Nat.beq c c'
 | .map none, .map none=>true
 | .nilFunc, .nilFunc=>true
 | .nilIface, .nilIface=>true
 |_,_=>false
def allEq {α:Type} (f:α->α->Bool):List α->List α->Bool
 | [],[]=>true
 |x::xs,y::ys=>f x y&&allEq f xs ys
 |_,_=>false
def oH:Nat->AV->AV->Bool
 |0,_,_=>false
 |n+1,x,y=>
  match x,y with
  | .undef, .undef=>true
  | .sc v, .sc v'=>vEq v v'
  | .ptr i o, .ptr i' o'=>Nat.beq i i'&&Nat.beq o o'
  | .sl i z o l, .sl i' z' o' l'=>Nat.beq i i'&&Nat.beq z z'&&(Nat.beq o o'&&Nat.beq l l')
  | .map i, .map i'=>Nat.beq i i'
  | .func f a b, .func f' a' b'=>Nat.beq f f'&&(allEq (oH n) a a'&&allEq (oH n) b b')
  | .agg a, .agg b=>allEq (oH n) a b
  | .tup a, .tup b=>allEq (oH n) a b
  | .eptr a, .eptr b=>allEq (oH n) a b
  | .esl a, .esl b=>allEq (allEq (oH n)) a b
  | .e0, .e0=>true
  |_,_=>false
def SW:Option Blk->Option Blk->Bool
 |some (.cells a),some (.cells b)=>allEq (oH 6) a b
 |some (.map a),some (.map b)=>allEq (fun p q=>vEq p.1 q.1&&oH 6 p.2 q.2) a b
 |_,_=>false
def tP:List Bool->Bool
 | []=>true
 | [b]=>b
 |b::bs=>ci b (tP bs)
def lA:Option (List Bool)->Bool
 |some l=>tP l
 |none=>false
def ofB (b:Bool):Option (List Bool):=bif b then some []else none
def SX:Option (List Bool)->Option (List Bool)->Option (List Bool)
 |some a,some b=>some (a++b)
 |_,_=>none
def SY {α:Type} (f:α->Option (List Bool)):List α->Option (List Bool)
 | []=>some []
 |x::xs=>SX (f x) (SY f xs)
def SZ (x y:AV):Option (List Bool):=
 match x,y with
 | .ui k n, .ui k' m=>bif decide (k=k')then some [ab .eql n m]else none
 | .ub a, .ub b=>some [AA a b]
 | .rows T d, .rows T' d'=>bif Nat.beq T T' then some [fV d d']else none
 | .dat T d, .dat T' d'=>bif Nat.beq T T' then some [fV d d']else none
 | .edat T d, .edat T' d'=>bif Nat.beq T T' then some [fV d d']else none
 | .osl i T m, .osl i' T' m'=>bif Nat.beq i i'&&Nat.beq T T' then some [ab .eql m m']else none
 |x,y=>ofB (oH 6 x y)
def eqsO:List AV->List AV->Option (List Bool)
 | [],[]=>some []
 |x::xs,y::ys=>SX (SZ x y) (eqsO xs ys)
 |_,_=>none
def Dg:Option Blk->Option Blk->Option (List Bool)
 |some (.cells a),some (.cells b)=>eqsO a b
 |some (.dat T d),some (.dat T' d')=>bif Nat.beq T T' then some [fV d d']else none
 |some (.lst T d),some (.lst T' d')=>bif Nat.beq T T' then some [fV d d']else none
 |some (.mp k v d),some (.mp k' v' d')=>bif Nat.beq k k'&&Nat.beq v v' then some [fV d d']else none
 |x,y=>ofB (SW x y)
def iP:AV->List Nat
 | .sl i _ _ _=>[i]
 | .osl i _ _=>[i]
 |_=>[]
def Bl (P:Program) (H:Hp):List AV->List TypeId->Option (List Nat)
 | [s,x],[T,_]=>(match P.underlying T with
   |some (.slice e)=>if(fG H aA (bJ e H x++bJ e H s)).all (fun t=>Nat.blt t H.n)=true then some (iP s++fG H aA (bJ e H x++bJ e H s))else none
   |_=>none)
 |_,_=>none
def vS:AV->Option (List Nat)
 | .ptr c _=>some [c]
 | .oel c _ _ _=>some [c]
 |_=>none
def S0 (env:Env) (f:FuncId) (H:Hp) (args:List AV):Option (List Nat):=
 if(!(env.isPure f)&&env.isFrz f&&(fG H aA args).all (fun t=>Nat.blt t H.n))=true then some (fG H aA args)else none
def chg (env:Env) (fr:Fr) (H:Hp):Op->Option (List Nat)
 | .store _ a _=>vS (opd fr a)
 | .call c=>(match c.callee with
   | .builtin .append=>Bl env.P H (c.args.toList.map (opd fr)) c.argTypes.toList
   | .value (.func f)=>S0 env f H (c.args.toList.map (opd fr))
   |_=>none)
 |_=>none
def F2 (env:Env) (x:Op) (fr:Fr) (H H':Hp) (i:Nat):Bool:=
 Nat.ble (cls env x) 1||(Nat.blt i H.n&&(Nat.beq (cls env x) 2||(match chg env fr H x with|some ts=> !(ts.elem i)|none=>false)||lA (Dg (H.get i) (H'.get i))))
def ua (env:Env) (ops:Array Oper) (S:List (Fr×Hp)) (i a b:Nat):Bool:=
 (List.range (b-a)).all fun d=>match ops[a+d]?,S[a+d]?,S[a+d+1]? with
  |some o,some p,some q=>F2 env o.op p.1 p.2 q.2 i
  |_,_,_=>false
def glOk (S:List (Fr×Hp)) (l a b:Nat):Bool:=
 (List.range (b+1-a)).all fun d=>match S[a+d]?,S[l]? with
  |some p,some q=>p.2.gl==q.2.gl
  |_,_=>false
def jv (env:Env) (ops:Array Oper) (S:List (Fr×Hp)) (l a b:Nat):Op->Bool
 | .load _ (.tmp s)=>(match(S[l]?).map (fun(p:Fr×Hp)=>p.1.getD s .undef)with
   |some (.ptr i _)=>ua env ops S i a b
   |some (.eptr _)=>true
   |some (.edat _ _)=>true
   |some (.sc (.pointer (some ⟨_,_,none⟩)))=>glOk S l a b
   |_=>false)
 | .slice _ (.tmp s) _ _ _=>(match(S[l]?).map (fun(p:Fr×Hp)=>p.1.getD s .undef)with
   |some (.ptr _ _)=>false
   |some _=>true
   |none=>false)
 |_=>false
def vU (S:List (Fr×Hp)) (i j:Nat):Op->Bool
 | .store _ (.tmp s) _=>(match(S[j]?).map (fun(p:Fr×Hp)=>p.1.getD s .undef),S[i]? with
   |some (.ptr c _),some q=>Nat.blt c q.2.n
   |_,_=>false)
 |_=>false
def iQ (env:Env) (pr:List (List Nat)) (ops:Array Oper) (S:List (Fr×Hp)) (i j:Nat):Bool:=
 (pr.getD j []).elem i||(match ops[i]?,ops[j]? with
  |some x,some y=>
   bif gI x.op&&Nat.beq (cls env y.op) 3 then jv env ops S i i (j+1) x.op
   else bif Nat.beq (cls env x.op) 3&&gI y.op then jv env ops S j i j y.op
   else bif Nat.beq (cls env x.op) 2&&qv y.op then vU S i j y.op else true
  |_,_=>true)
def iR (env:Env) (ops:Array Oper) (S:List (Fr×Hp)):Bool:=
 let pr:=iN ops
 (List.range ops.size).all fun j=>(List.range j).all fun i=>iQ env pr ops S i j
def fW {R:Type} (env:Env) (r:Rec) (ops:Array Oper) (k:List (Fr×Hp)->Fr->Hp->Option R):List Oper->List (Fr×Hp)->Fr->Hp->Option R
 | [],log,fr,H=>k log fr H
 |o::os,log,fr,H=>dt false env r ops (fun fr' H'=>fW env r ops k os ((fr,H)::log) fr' H') [o] fr H
def Dh (b:Bool) (x y:AV):AV:=
 match x,y with
 | .ub p, .ub q=> .ub (aw b p q)
 | .ub p, .sc (.bool q)=> .ub (aw b p q)
 | .sc (.bool p), .ub q=> .ub (aw b p q)
 | .sc (.bool p), .sc (.bool q)=>bif p==q then .sc (.bool p)else .ub (aw b p q)
 | .ui k n, .ui k' m=>if k=k' then .ui k (fC b n m)else .undef
 | .ui k n, .sc (.int k' m)=>if k=k' then .ui k (fC b n m)else .undef
 | .sc (.int k n), .ui k' m=>if k=k' then .ui k (fC b n m)else .undef
 | .sc (.int k n), .sc (.int k' m)=>if k=k' then(if n=m then .sc (.int k n)else .ui k (fC b n m))else .undef
 | .us s, .us t=> .us (FT b s t)
 | .us s, .sc (.string t)=> .us (FT b s t)
 | .sc (.string s), .us t=> .us (FT b s t)
 | .sc (.string s), .sc (.string t)=> .us (FT b s t)
 | .rows T d, .rows T' d'=>bif Nat.beq T T' then .rows T (NI b d d')else .undef
 | .dat T d, .dat T' d'=>bif Nat.beq T T' then .dat T (NI b d d')else .undef
 | .edat T d, .edat T' d'=>bif Nat.beq T T' then .edat T (NI b d d')else .undef
 | .ptr i o, .ptr i' o'=>bif Nat.beq i i'&&Nat.beq o o' then .ptr i o else .undef
 |_,_=> .undef
def jw (ds:List Nat) (b:Bool):Nat->List AV->List AV->List AV->List AV
 |i,p::ps,x::xs,y::ys=>(bif ds.elem i then Dh b x y else p)::jw ds b (i+1) ps xs ys
 |_,_,_,_=>[]
def vV (b:Bool) (x y:List Bool):List Bool:=
 match x,y with
 | [],[]=>[]
 |x,y=>[aw b (tP x) (tP y)]
def F3 (s:Nat):Op->Bool
 | .pick (.tmp t) _ _=>Nat.beq t s
 |_=>false
def g7 (s:Nat):List Oper->Option (List Oper×List Oper)
 | []=>none
 |o::os=>bif F3 s o.op then some ([o],os)else(g7 s os).map fun q=>(o::q.1,q.2)
def iS:List Oper->List Nat
 | []=>[]
 |o::os=>(match o.dst with|some d=>[d]|none=>[])++iS os
def gJ (env:Env) (r:Rec) (ops:Array Oper) (H:Hp):Nat->List Oper->Fr->Option (Fr×List Bool)
 |0,_,_=>none
 |_+1,[],fr=>some (fr,[])
 |n+1,o::os,fr=>
  match o.guard with
  |none=>(bS env r fr H o.type o.op).bind fun p=>(gJ env r ops H n os (dB fr o.dst p.1)).bind fun q=>some (q.1,obl env fr H o.op++q.2)
  |some (j,want)=>
   match(ops[j]?).bind (·.dst)with
   |none=>none
   |some s=>
    match fr.getD s .undef with
    | .sc (.bool b)=>bif b==want then(bS env r fr H o.type o.op).bind fun p=>(gJ env r ops H n os (dB fr o.dst p.1)).bind fun q=>some (q.1,obl env fr H o.op++q.2)
       else gJ env r ops H n os (dB fr o.dst uv)
    | .sc (.tuple _)=>gJ env r ops H n os (dB fr o.dst uv)
    | .ub b=>(g7 s (o::os)).bind fun c=>
       (gJ env r ops H n c.1 (fr.set s (.sc (.bool true)))).bind fun x=>(gJ env r ops H n c.1 (fr.set s (.sc (.bool false)))).bind fun y=>
       (gJ env r ops H n c.2 (jw (iS c.1) b 0 fr x.1 y.1)).bind fun z=>some (z.1,vV b x.2 y.2++z.2)
    |_=>none
def S7 (env:Env) (ops:Array Oper):Bool:=ops.toList.all fun o=>Nat.ble (cls env o.op) 1
def quiet (env:Env):Code->Bool
 | .skip=>true
 | .region _ ops draw=> !draw&&S7 env ops
 | .seq a b=>quiet env a&&quiet env b
 | .cond _ a b=>quiet env a&&quiet env b
 |_=>false
def er:Code->List Nat
 | .region _ ops _=>iS ops.toList
 | .seq a b=>er a++er b
 | .cond _ a b=>er a++er b
 |_=>[]
def evQ (env:Env) (r:Rec) (fuel:Nat) (H:Hp):Code->Fr->Option (Fr×List Bool)
 | .skip,fr=>some (fr,[])
 | .region _ ops _,fr=>gJ env r ops H fuel ops.toList fr
 | .seq a b,fr=>(evQ env r fuel H a fr).bind fun x=>(evQ env r fuel H b x.1).bind fun y=>some (y.1,x.2++y.2)
 | .cond c a b,fr=>
   match opd fr c with
   | .sc (.bool t)=>bif t then evQ env r fuel H a fr else evQ env r fuel H b fr
   | .ub t=>(evQ env r fuel H a fr).bind fun x=>(evQ env r fuel H b fr).bind fun y=>some (jw (er a++er b) t 0 fr x.1 y.1,vV t x.2 y.2)
   |_=>none
 |_,_=>none
structure RW where
 rd:List Nat
 wr:List Nat
def RW.read (x:RW) (t:Nat):RW:=bif x.rd.elem t||x.wr.elem t then x else⟨t::x.rd,x.wr⟩
def RW.write (x:RW) (t:Nat):RW:=bif x.rd.elem t||x.wr.elem t then x else⟨x.rd,t::x.wr⟩
def RW.opd (x:RW):Operand->RW
 | .tmp t=>x.read t
 |_=>x
def RW.opds (x:RW):List Operand->RW
 | []=>x
 |o::os=>(x.opd o).opds os
def RW.dst (x:RW):Option Nat->RW
 |some d=>x.write d
 |none=>x
def RW.ops (ops:Array Oper):RW->List Oper->RW
 |x,[]=>x
 |x,o::os=>RW.ops ops (((match o.guard with|some (j,_)=>x.read (vP ops j)|none=>x).opds o.op.operands.toList).dst o.dst) os
def RW.code (x:RW):Code->RW
 | .region _ ops _=>RW.ops ops x ops.toList
 | .seq a b=>(x.code a).code b
 | .cond c a b=>((x.opd c).code a).code b
 | .block _ c=>x.code c
 | .loop c=>x.code c
 | .scope c=>x.code c
 |_=>x
def jx (c:Code):List Nat:=((⟨[],[]⟩:RW).code c).wr
def lR (fr:Fr):List Nat->Fr
 | []=>fr
 |t::ts=>lR (fr.set t .undef) ts
def below (L:Nat):Nat->AV->Bool
 |0,_=>false
 |n+1,x=>
  match x with
  | .ptr i _=>decide (i<L)
  | .sl i _ _ _=>decide (i<L)
  | .map i=>decide (i<L)
  | .osl i _ _=>decide (i<L)
  | .oel i _ _ _=>decide (i<L)
  | .nx _ _ _=>false
  | .func _ a b=>a.all (below L n)&&b.all (below L n)
  | .agg cs=>cs.all (below L n)
  | .tup cs=>cs.all (below L n)
  |_=>true
def vW (L:Nat):Option Blk->Bool
 |some (.cells cs)=>cs.all (below L aA)
 |some (.map es)=>es.all (fun e=>below L aA e.2)
 |some (.dat _ _)=>true
 |some (.lst _ _)=>true
 |some (.siter _ _ _)=>true
 |some (.miter _ _)=>true
 |some (.mp _ _ _)=>true
 |none=>true
def gcA (L:Nat) (fr:Fr) (H:Hp):Hp:=
 bif Nat.ble H.n L then H else
 bif fr.all (below L aA)&&(H.trunc L).bs.all (vW L)then H.trunc L else H
def iT {R:Type} (clr:Bool) (ts:List Nat) (L:Nat) (step:Fr->Hp->(Fr->Hp->Option R)->Option R):Nat->Fr->Hp->Option R
 |0,_,_=>none
 |n+1,fr,H=>
  bif clr then
   (let fr:=lR fr ts;step fr (gcA L fr H) (iT clr ts L step n))
  else step fr H (iT clr ts L step n)
def jO {R:Type} (clr:Bool) (ts:List Nat) (L:Nat) (c:Code) (kg:Nat->Fr->Hp->Option R) (step:Nat->Fr->Hp->(Nat->Fr->Hp->Option R)->Option R):Nat->Nat->Fr->Hp->Option R
 |0,_,_,_=>none
 |n+1,l,fr,H=>
  bif (findLabel c l).isSome then
   (bif clr then
    (let fr:=lR fr ts;step l fr (gcA L fr H) (jO clr ts L c kg step n))
   else step l fr H (jO clr ts L c kg step n))
  else kg l fr H
def ev {R:Type} (env:Env) (r:Rec) (fuel:Nat):Option Nat->Code->Fr->Hp->(Fr->Hp->Option R)->(Nat->Fr->Hp->Option R)->(Fr->Hp->Option R)->(Nat->Fr->Hp->Option R)->Option R
 |none, .skip,fr,H,kn,_,_,_=>kn fr H
 |none, .label _,fr,H,kn,_,_,_=>kn fr H
 |none, .ret,fr,H,_,_,kr,_=>kr fr H
 |none, .exit id,fr,H,_,kx,_,_=>kx id fr H
 |none, .goto l,fr,H,_,_,_,kg=>kg l fr H
 |none, .seq a b,fr,H,kn,kx,kr,kg=>
  bif env.clr&&quiet env a then
   (match evQ env r 400 H a fr with
    |some q=>cQ (ev env r fuel none b q.1 H kn kx kr kg) q.2
    |none=>ev env r fuel none a fr H (fun fr H=>ev env r fuel none b fr H kn kx kr kg) kx kr kg)
  else ev env r fuel none a fr H (fun fr H=>ev env r fuel none b fr H kn kx kr kg) kx kr kg
 |none, .cond c a b,fr,H,kn,kx,kr,kg=>
  match opd fr c with
  | .sc (.bool t)=>bif t then ev env r fuel none a fr H kn kx kr kg else ev env r fuel none b fr H kn kx kr kg
  | .ub t=>bif t then ev env r fuel none a fr H kn kx kr kg else ev env r fuel none b fr H kn kx kr kg
  |_=>none
 |none, .block id c,fr,H,kn,kx,kr,kg=>ev env r fuel none c fr H kn (fun i fr H=>bif Nat.beq i id then kn fr H else kx i fr H) kr kg
 |none, .loop c,fr,H,_,kx,kr,kg=>match env.lp env.n0 c with
  |some g=>(g fr H).go (fun _ _=>none) kx kr kg
  |none=>iT env.clr (jx c) H.n (fun fr H kn=>ev env r fuel none c fr H kn kx kr kg) fuel fr H
 |none, .scope c,fr,H,kn,kx,kr,kg=>
  ev env r fuel none c fr H kn kx kr (jO env.clr (jx c) H.n c kg (fun l fr H kg=>ev env r fuel (some l) c fr H kn kx kr kg) fuel)
 |none, .region _ ops draw,fr,H,kn,_,_,_=>
  bif draw then(bif fe env (ca env ops)&&sx env ops then fW env r (ca env ops) (fun log fr H=>bif iR env (ca env ops) (log.reverse ++ [(fr,H)])then kn fr H else none) (ca env ops).toList [] (Df env ops fr) H else none)
  else dt true env r ops kn ops.toList fr H
 |some l, .seq a b,fr,H,kn,kx,kr,kg=>
  bif (findLabel a l).isSome then ev env r fuel (some l) a fr H (fun fr H=>ev env r fuel none b fr H kn kx kr kg) kx kr kg
  else ev env r fuel (some l) b fr H kn kx kr kg
 |some l, .label l',fr,H,kn,_,_,_=>bif Nat.beq l' l then kn fr H else none
 |_,_,_,_,_,_,_,_=>none
def AC (P:Program) (fr:Fr) (H:Hp):ResultVar->Option AV
 | .tmp t=>fr[t]?
 | .cell a T=>(fr[a]?).bind fun x=>bif (fF H x).isEmpty then eR P H T x else none
def retA (P:Program) (rs:List ResultVar) (fr:Fr) (H:Hp):Option (AV×Hp):=
 match rs with
 | [r]=>(AC P fr H r).bind fun v=>some (v,H)
 |rs=>(bE (AC P fr H) rs).bind fun vs=>some (.tup vs,H)
def ff (args:List AV) (n:Nat):Fr:=args++List.replicate (n-args.length) uv
end
end Go.AM
