/-
  Made by gen3.py: what functions of the seat compute, as partial functions on data, and that they do.
-/
import Derived.Test.YtiojjmlccehpoaaGreatM1
import Derived.KernelRfl
set_option linter.defProp false
set_option linter.unusedSimpArgs false
set_option linter.unusedVariables false
set_option maxRecDepth 100000
open Go Go.AM
namespace Go.Proofs.YtiojjmlccehpoaaGreat
noncomputable section
def S177_2:LoopS:=⟨0,ufR 65::ufR 65::uF::uF::ufZ::utI::uAA 41 [],[],[⟨0,0,ufR 65::ufR 65::uT::uT::utZ::uAB 42 [],[]⟩,⟨1,0,ufR 65::ufR 65::uT::uT::utI::uAB 42 [],[]⟩]⟩
def vq (p s:List D):Option (Sum (List D) (List D)):=aO env Yk 60 12 177 (bc 177 2) S177_2 p s
theorem TS (pd0:D) (pd1:D) (sn0:Int):vq [pd0,pd1] [(D.int sn0)] =
 let x0:=aS pd1 sn0
 let x1:=ax pd1 sn0
 let x2:=D.str (aC (aa x1 0))
 let x3:=EM [x2]
 let x4:=D.int 1
 let x5:=MJ [pd0,x2]
 let x6:Option (List D ⊕ List D):=ge pd0<|ge pd1<|some (Sum.inr [x4,.int 8])
 let x7:=MJ [dA pd1 0 sn0,x2]
 let x8:=aa x1 1
 let x9:=Nq [.agg [.int (ah (aa x8 0)),.int (ah (aa x8 1)),.int (ah (aa x8 2)),aa x8 3,aa x8 4]]
 let x10:=ah (ab x9 0)
 bif ae .lss sn0 (ac pd1)then gd x0<|gd (ao x3)<|bif b8 (aT (ab x3 0))then ge pd0<|ge pd1<|some (Sum.inr [x4,.int 3])else gd x0<|gd (ao x5)<|bif aT (ab x5 0)then x6 else gd (ae .leq 0 0)<|gd (ae .leq 0 sn0)<|gd (ae .leq sn0 (ac pd1))<|gd x0<|gd (ao x7)<|bif aT (ab x7 0)then x6 else gd x0<|gd (ao x9)<|bif ae .neq x10 0 then ge pd0<|ge pd1<|some (Sum.inr [x4,.int x10])else ge pd0<|ge pd1<|some (Sum.inl [.int (aM .add .i64 sn0 1)])else ge pd0<|ge pd1<|some (Sum.inr [.int 0]):=by kernel_rfl
def zm:=by have h:= @TS;simp only[aE,gd,aj,ai,ak,au,ar,aD,ap]at h;exact h
def zn:List D->uAC:=veil fun p s=>loW (vq p) s
theorem CX:zn=fun p s=>loW (vq p) s:=am _
def zo:Tb:=Tb.addL Yk 177 2 S177_2.n0 (bL S177_2 (zn))
theorem Jm:TbOk env (zo):=aG Yl 177 2 (by kernel_rfl) _ (CX)
def S177:FunS:=⟨[utR 65,utR 65],[],[utI],[]⟩
def F177:uAC:=aN env zo 60 12 177 S177
theorem F177_eq (sd0:D) (sd1:D):F177 [sd0,sd1] =
 bif (ao (zn [sd0,sd1] [(D.int 0)]))then
  bif (ae BinOp.eql (ah (ab (zn [sd0,sd1] [(D.int 0)]) 0)) 0)then
   some [(D.int 0)]
  else
   some [(D.int (ah (ab (zn [sd0,sd1] [(D.int 0)]) 1)))]
 else
  none:=by kernel_rfl
def Ym:uAC:=veil (F177)
theorem QF:Ym=F177:=am _
def Yn:Tb:=Tb.addF zo 177 S177 (Ym)
theorem Yo:TbOk env (Yn):=aI Jm 177 (by kernel_rfl) _ (QF)
def S178_7:LoopS:=⟨0,ufR 162::uF::ufZ::ufI::utI::uAA 36 [],[],[⟨0,2,ufR 162::uT::utZ::ufI::uAB 37 [],[]⟩,⟨1,0,ufR 162::uT::utS (.lit (.int .i64 8))::ufI::uAB 37 [],[]⟩]⟩
def vt (p s:List D):Option (Sum (List D) (List D)):=aO env Yn 60 12 178 (bc 178 7) S178_7 p s
theorem TU (pd0:D) (pn1:Int) (sn0:Int):vt [pd0,(D.int pn1)] [(D.int sn0)] =
 let x0:=D.int pn1
 bif ae .lss sn0 pn1 then gd (aS pd0 sn0)<|gd (aS pd0 pn1)<|bif cD .eql (aC (aa (ax pd0 sn0) 0)) (aC (aa (ax pd0 pn1) 0))then ge pd0<|ge x0<|some (Sum.inr [.int 1])else ge pd0<|ge x0<|some (Sum.inl [.int (aM .add .i64 sn0 1)])else ge pd0<|ge x0<|some (Sum.inr [.int 0]):=by kernel_rfl
def zp:=by have h:= @TU;simp only[aE,gd,aj,ai,ak,au,ar,aD,ap]at h;exact h
def Nr:List D->uAC:=veil fun p s=>loW (vt p) s
theorem CY:Nr=fun p s=>loW (vt p) s:=am _
def zq:Tb:=Tb.addL Yn 178 7 S178_7.n0 (bL S178_7 (Nr))
theorem Jn:TbOk env (zq):=aG Yo 178 7 (by kernel_rfl) _ (CY)
def S178_2:LoopS:=⟨0,ufR 162::uF::ufZ::utI::uAA 37 [],[],[⟨0,0,ufR 162::uT::utZ::uAB 38 [],[]⟩,⟨1,0,ufR 162::uT::utI::uAB 38 [],[]⟩]⟩
def vv (p s:List D):Option (Sum (List D) (List D)):=aO env zq 60 12 178 (bc 178 2) S178_2 p s
theorem TV (pd0:D) (sn0:Int):vv [pd0] [(D.int sn0)] =
 let x0:=aS pd0 sn0
 let x1:=ax pd0 sn0
 let x2:=EM [.str (aC (aa x1 0))]
 let x3:=D.int 1
 let x4:=Nr [pd0,.int sn0] [.int 0]
 bif ae .lss sn0 (ac pd0)then gd x0<|gd (ao x2)<|bif b8 (aT (ab x2 0))then ge pd0<|some (Sum.inr [x3,.int 3])else gd (ao x4)<|bif ae .eql (ah (ab x4 0)) 0 then gd x0<|bif ae .gtr (ac (aa x1 2)) 65536 then ge pd0<|some (Sum.inr [x3,.int 6])else ge pd0<|some (Sum.inl [.int (aM .add .i64 sn0 1)])else ge pd0<|some (Sum.inr [x3,.int 8])else ge pd0<|some (Sum.inr [.int 0]):=by kernel_rfl
def zr:=by have h:= @TV;simp only[aE,gd,aj,ai,ak,au,ar,aD,ap]at h;exact h
def zt:List D->uAC:=veil fun p s=>loW (vv p) s
theorem CZ:zt=fun p s=>loW (vv p) s:=am _
def zu:Tb:=Tb.addL zq 178 2 S178_2.n0 (bL S178_2 (zt))
theorem Jo:TbOk env (zu):=aG Jn 178 2 (by kernel_rfl) _ (CZ)
def S178:FunS:=⟨[utR 162],[],[utI],[]⟩
def F178:uAC:=aN env zu 60 12 178 S178
theorem F178_eq (sd0:D):F178 [sd0] =
 bif (ao (zt [sd0] [(D.int 0)]))then
  bif (ae BinOp.eql (ah (ab (zt [sd0] [(D.int 0)]) 0)) 0)then
   some [(D.int 0)]
  else
   some [(D.int (ah (ab (zt [sd0] [(D.int 0)]) 1)))]
 else
  none:=by kernel_rfl
def q178:uAC:=veil (F178)
theorem QG:q178=F178:=am _
def Yp:Tb:=Tb.addF zu 178 S178 (q178)
theorem Yq:TbOk env (Yp):=aI Jo 178 (by kernel_rfl) _ (QG)
def S179_2:LoopS:=⟨0,ufR 38::ufI::⟨false, .str⟩::uF::uF::uF::ufS (.lit (.bool false))::utI::uAA 12 [],[],[⟨0,0,ufR 38::ufI::⟨false, .str⟩::uT::uT::uT::utS (.lit (.bool false))::uAB 13 [],[]⟩,⟨1,0,ufR 38::ufI::⟨false, .str⟩::uT::uT::uT::utS (.lit (.bool true))::uAB 13 [],[]⟩]⟩
def vw (p s:List D):Option (Sum (List D) (List D)):=aO env Yp 60 12 179 (bc 179 2) S179_2 p s
theorem TW (pd0:D) (pn1:Int) (ps2:ByteArray) (sn0:Int):vw [pd0,(D.int pn1),(D.str ps2)] [(D.int sn0)] =
 let x0:=D.int pn1
 let x1:=D.str ps2
 bif ae .lss sn0 pn1 then gd (aS pd0 sn0)<|bif cD .eql (aC (aa (ax pd0 sn0) 0)) ps2 then ge pd0<|ge x0<|ge x1<|some (Sum.inr [.int 1])else ge pd0<|ge x0<|ge x1<|some (Sum.inl [.int (aM .add .i64 sn0 1)])else ge pd0<|ge x0<|ge x1<|some (Sum.inr [.int 0]):=by kernel_rfl
def zw:=by have h:= @TW;simp only[aE,gd,aj,ai,ak,au,ar,aD,ap]at h;exact h
def Fo:List D->uAC:=veil fun p s=>loW (vw p) s
theorem C0:Fo=fun p s=>loW (vw p) s:=am _
def zx:Tb:=Tb.addL Yp 179 2 S179_2.n0 (bL S179_2 (Fo))
theorem Jp:TbOk env (zx):=aG Yq 179 2 (by kernel_rfl) _ (C0)
def S179:FunS:=⟨[utR 38,utI,⟨true, .str⟩],[],[utB],[]⟩
def F179:uAC:=aN env zx 60 12 179 S179
theorem F179_eq (sd0:D) (sn1:Int) (ss2:ByteArray):F179 [sd0,(D.int sn1),(D.str ss2)] =
 bif (ao (Fo [sd0,(D.int sn1),(D.str ss2)] [(D.int 0)]))then
  bif (ae BinOp.eql (ah (ab (Fo [sd0,(D.int sn1),(D.str ss2)] [(D.int 0)]) 0)) 0)then
   some [(D.bool Bool.false)]
  else
   some [(D.bool Bool.true)]
 else
  none:=by kernel_rfl
def Yr:uAC:=veil (F179)
theorem QH:Yr=F179:=am _
def Ys:Tb:=Tb.addF zx 179 S179 (Yr)
theorem Jq:TbOk env (Ys):=aI Jp 179 (by kernel_rfl) _ (QH)
def Ns:FunS:=⟨[utR 187,utI],[],[utI],[]⟩
def Nt (Q:uAC):Tb:=Tb.addF Ys 227 Ns Q
theorem TX (Q:uAC) (hQ:aH env.P 227 Ns Q):TbOk env (Nt Q):=TbOk.addF Jq (by kernel_rfl) hQ
def S227_14:LoopS:=⟨0,ufR 187::ufI::uF::uF::ufZ::utI::ufI::uF::utI::uAA 64 [],[],[⟨0,2,ufR 187::ufI::uT::uT::utZ::utI::ufI::uAB 66 [],[]⟩]⟩
def qa (Q:uAC) (p s:List D):Option (Sum (List D) (List D)):=aO env (Nt Q) 60 12 227 (bc 227 14) S227_14 p s
theorem Nu (Q:uAC) (pd0:D) (pn1:Int) (pn2:Int) (sn0:Int) (sn1:Int):qa Q [pd0,(D.int pn1),(D.int pn2)] [(D.int sn0),(D.int sn1)] =
 let x0:=aS pd0 pn2
 let x1:=aa (ax pd0 pn2) 6
 let x2:=Q [ax x1 sn1,.int (aM .sub .i64 pn1 1)]
 let x3:=ah (ab x2 0)
 let x4:=D.int pn1
 let x5:=D.int pn2
 let x6:=D.int (aM .add .i64 sn1 1)
 gd x0<|bif ae .lss sn1 (ac x1)then gd x0<|gd (aS x1 sn1)<|gd (ao x2)<|bif ae .gtr x3 sn0 then ge pd0<|ge x4<|ge x5<|some (Sum.inl [.int x3,x6])else ge pd0<|ge x4<|ge x5<|some (Sum.inl [.int sn0,x6])else ge pd0<|ge x4<|ge x5<|some (Sum.inr [.int 0,.int sn0]):=by kernel_rfl
def tZ:=by have h:= @Nu;simp only[aE,gd,aj,ai,ak,au,ar,aD,ap]at h;exact h
def vx (Q:uAC):List D->uAC:=veil fun p s=>loW (qa Q p) s
theorem zy (Q:uAC):vx Q=fun p s=>loW (qa Q p) s:=am _
def r7 (Q:uAC):Tb:=Tb.addL (Nt Q) 227 14 S227_14.n0 (bL S227_14 (vx Q))
theorem Fp (Q:uAC) (hQ:aH env.P 227 Ns Q):TbOk env (r7 Q):=aG (TX Q hQ) 227 14 (by kernel_rfl) _ (zy Q)
def S227_5:LoopS:=⟨0,ufR 187::ufI::uF::uF::ufZ::utI::utI::uAA 66 [],[],[⟨0,0,ufR 187::ufI::uT::uT::utZ::utI::uAB 67 [],[]⟩]⟩
def vy (Q:uAC) (p s:List D):Option (Sum (List D) (List D)):=aO env (r7 Q) 60 12 227 (bc 227 5) S227_5 p s
theorem TY (Q:uAC) (pd0:D) (pn1:Int) (sn0:Int) (sn1:Int):vy Q [pd0,(D.int pn1)] [(D.int sn0),(D.int sn1)] =
 let x0:=aS pd0 sn1
 let x1:=ax pd0 sn1
 let x2:=D.int (aM .sub .i64 pn1 1)
 let x3:=Q [aa x1 4,x2]
 let x4:=Q [aa x1 5,x2]
 let x5:=D.int pn1
 let x6:=ah (ab x4 0)
 let x7:=ah (ab x3 0)
 let x8:=fG (ae .gtr x7 sn0) x7 sn0
 let x9:=vx Q [pd0,x5,.int sn1] [.int (fG (ae .gtr x6 x8) x6 x8),.int 0]
 bif ae .lss sn1 (ac pd0)then gd x0<|gd (ao x3)<|gd x0<|gd (ao x4)<|gd (ao x9)<|ge pd0<|ge x5<|some (Sum.inl [.int (ah (ab x9 1)),.int (aM .add .i64 sn1 1)])else ge pd0<|ge x5<|some (Sum.inr [.int 0,.int sn0]):=by kernel_rfl
def zz:=by have h:= @TY;simp only[aE,gd,aj,ai,ak,au,ar,aD,ap]at h;exact h
def Fq (Q:uAC):List D->uAC:=veil fun p s=>loW (vy Q p) s
theorem C1 (Q:uAC):Fq Q=fun p s=>loW (vy Q p) s:=am _
def zA (Q:uAC):Tb:=Tb.addL (r7 Q) 227 5 S227_5.n0 (bL S227_5 (Fq Q))
theorem Jr (Q:uAC) (hQ:aH env.P 227 Ns Q):TbOk env (zA Q):=aG (Fp Q hQ) 227 5 (by kernel_rfl) _ (C1 Q)
def Yt (Q:uAC):uAC:=aN env (zA Q) 60 12 227 Ns
theorem Yu (Q:uAC) (sd0:D) (sn1:Int):Yt Q [sd0,(D.int sn1)] =
 bif (az (ae BinOp.eql (ac sd0) 0) Bool.true (ae BinOp.lss sn1 0))then
  some [(D.int 0)]
 else
  bif (ao (Fq Q [sd0,(D.int sn1)] [(D.int 0),(D.int 0)]))then
   some [(D.int (aM BinOp.add IntKind.i64 (ah (ab (Fq Q [sd0,(D.int sn1)] [(D.int 0),(D.int 0)]) 1)) 1))]
  else
   none:=by kernel_rfl
def Js:Nat->uAC:=levels Yt
theorem F227_s (n:Nat):Js (n+1)=Yt (Js n):=rfl
def q227:uAC:=veil fun ds=>Js (aW ds) ds
theorem QI:q227=fun ds=>Js (aW ds) ds:=am _
theorem Yv:aH env.P 227 Ns q227:=gj (fun q=>zA q) (fun q hq=>Jr q hq) QI
def Yw:Tb:=Tb.addF Ys 227 Ns q227
theorem Jt:TbOk env Yw:=TbOk.addF Jq (by kernel_rfl) Yv
def Nv:FunS:=⟨[utR 187,utB],[],[utR 299],[]⟩
def Nw (Q:uAC):Tb:=Tb.addF Yw 228 Nv Q
theorem TZ (Q:uAC) (hQ:aH env.P 228 Nv Q):TbOk env (Nw Q):=TbOk.addF Jt (by kernel_rfl) hQ
def S228_9:LoopS:=⟨0,ufR 187::ufB::uF::uF::ufN::ufO 0 299::ufI::utI::uAA 72 [],[(.lst true 299)],[⟨0,2,ufR 187::ufB::uT::uT::utN::utO 0 299::ufI::uAB 73 [],[(.lst true 299)]⟩]⟩
def vz (Q:uAC) (p s:List D):Option (Sum (List D) (List D)):=aO env (Nw Q) 60 12 228 (bc 228 9) S228_9 p s
theorem T3 (Q:uAC) (pd0:D) (pb1:Bool) (pn2:Int) (sn0:Int) (sd1:D):vz Q [pd0,(D.bool pb1),(D.int pn2)] [(D.int sn0),sd1] =
 let x0:=aS pd0 pn2
 let x1:=aa (ax pd0 pn2) 6
 let x2:=D.bool pb1
 let x3:=Q [ax x1 sn0,x2]
 let x4:=ae .eql (ac sd1) (ac sd1)
 let x5:=bt sd1 (ab x3 0)
 let x6:=ac x5
 gd x0<|bif ae .lss sn0 (ac x1)then gd x0<|gd (aS x1 sn0)<|gd (ao x3)<|gd x4<|gd (ci x6 136)<|gd (ae .eql x6 x6)<|ge pd0<|ge x2<|ge (.int pn2)<|some (Sum.inl [.int (aM .add .i64 sn0 1),x5])else gd x4<|ge pd0<|ge x2<|ge (.int pn2)<|some (Sum.inr [.int 0,sd1]):=by kernel_rfl
def zB:=by have h:= @T3;simp only[aE,gd,aj,ai,ak,au,ar,aD,ap]at h;exact h
def zC (Q:uAC):List D->uAC:=veil fun p s=>loW (vz Q p) s
theorem C2 (Q:uAC):zC Q=fun p s=>loW (vz Q p) s:=am _
def zD (Q:uAC):Tb:=Tb.addL (Nw Q) 228 9 S228_9.n0 (bL S228_9 (zC Q))
theorem Ju (Q:uAC) (hQ:aH env.P 228 Nv Q):TbOk env (zD Q):=aG (TZ Q hQ) 228 9 (by kernel_rfl) _ (C2 Q)
def S228_3:LoopS:=⟨0,ufR 187::ufB::uF::uF::ufN::ufO 0 299::utI::uAA 73 [],[(.lst true 299)],[⟨0,0,ufR 187::ufB::uT::uT::utN::utO 0 299::uAB 74 [],[(.lst true 299)]⟩]⟩
def vB (Q:uAC) (p s:List D):Option (Sum (List D) (List D)):=aO env (zD Q) 60 12 228 (bc 228 3) S228_3 p s
theorem T4 (Q:uAC) (pd0:D) (pb1:Bool) (sn0:Int) (sd1:D):vB Q [pd0,(D.bool pb1)] [(D.int sn0),sd1] =
 let x0:=aS pd0 sn0
 let x1:=ae .eql (ac sd1) (ac sd1)
 let x2:=ax pd0 sn0
 let x3:=ah (aa x2 0)
 let x4:=aa x2 4
 let x5:=D.bool pb1
 let x6:=bt sd1 (.list [.agg [.agg [.int x3,.int (ah (aa x2 1)),.str (aC (aa x2 2)),aa x2 3,x4,aa x2 5,aa x2 6],x5]])
 let x7:=ac x6
 let x8:=Q [x4,.bool true]
 let x9:=ae .eql x7 x7
 let x10:=bt x6 (ab x8 0)
 let x11:=ac x10
 let x12:=Q [aa x2 5,x5]
 let x13:=bt x10 (ab x12 0)
 let x14:=ac x13
 let x15:List D:=[pd0,x5,.int sn0]
 let x16:=D.int 0
 let x17:=zC Q x15 [x16,x13]
 let x18:=D.int (aM .add .i64 sn0 1)
 let x19:Option (List D ⊕ List D):=gd (ao x8)<|gd x9<|gd (ci x11 136)<|gd x0<|gd (ao x12)<|gd (ae .eql x11 x11)<|gd (ci x14 136)<|gd (ae .eql x14 x14)<|gd (ao x17)<|gd (ae .eql (ac (ab x17 1)) (ac (ab x17 1)))<|ge pd0<|ge x5<|some (Sum.inl [x18,ab x17 1])
 let x20:=Q [x4,.bool (ae .eql x3 8)]
 let x21:=bt x6 (ab x20 0)
 let x22:=ac x21
 let x23:=bt x21 (ab x12 0)
 let x24:=ac x23
 let x25:=zC Q x15 [x16,x23]
 bif ae .lss sn0 (ac pd0)then gd x0<|gd x1<|gd (ci x7 136)<|gd x0<|bif pb1 then x19 else gd x0<|bif ae .eql x3 7 then x19 else gd x0<|gd (ao x20)<|gd x9<|gd (ci x22 136)<|gd x0<|gd (ao x12)<|gd (ae .eql x22 x22)<|gd (ci x24 136)<|gd (ae .eql x24 x24)<|gd (ao x25)<|gd (ae .eql (ac (ab x25 1)) (ac (ab x25 1)))<|ge pd0<|ge x5<|some (Sum.inl [x18,ab x25 1])else gd x1<|ge pd0<|ge x5<|some (Sum.inr [x16,sd1]):=by kernel_rfl
def zE:=by have h:= @T4;simp only[aE,gd,aj,ai,ak,au,ar,aD,ap]at h;exact h
def Nx (Q:uAC):List D->uAC:=veil fun p s=>loW (vB Q p) s
theorem C3 (Q:uAC):Nx Q=fun p s=>loW (vB Q p) s:=am _
def zF (Q:uAC):Tb:=Tb.addL (zD Q) 228 3 S228_3.n0 (bL S228_3 (Nx Q))
theorem Jv (Q:uAC) (hQ:aH env.P 228 Nv Q):TbOk env (zF Q):=aG (Ju Q hQ) 228 3 (by kernel_rfl) _ (C3 Q)
def Yx (Q:uAC):uAC:=aN env (zF Q) 60 12 228 Nv
theorem Fb228_e (Q:uAC) (sd0:D) (sb1:Bool):Yx Q [sd0,(D.bool sb1)] =
 let x0:=Nx Q [sd0,.bool sb1] [.int 0,.list []]
 gd (ae .eql 0 (ac (.list [])))<|gd (ao x0)<|gd (ae .eql (ac (ab x0 1)) (ac (ab x0 1)))<|some [ab x0 1]:=by kernel_rfl
def Yy:=by have h:= @Fb228_e;simp only[aE,gd,aj,ai,ak,au,ar,aD,ap]at h;exact h
def Jw:Nat->uAC:=levels Yx
theorem F228_s (n:Nat):Jw (n+1)=Yx (Jw n):=rfl
def q228:uAC:=veil fun ds=>Jw (aW ds) ds
theorem QJ:q228=fun ds=>Jw (aW ds) ds:=am _
theorem Yz:aH env.P 228 Nv q228:=gj (fun q=>zF q) (fun q hq=>Jv q hq) QJ
def YA:Tb:=Tb.addF Yw 228 Nv q228
theorem YB:TbOk env YA:=TbOk.addF Jt (by kernel_rfl) Yz
def S264:FunS:=⟨[utI],[],[utS (.tup [(.int .i64), .bool, .bool, .bool])],[]⟩
def F264:uAC:=aN env YA 60 12 264 S264
theorem F264_e (sn0:Int):F264 [(D.int sn0)] =
 let x0:=D.int 1
 let x1:=D.bool true
 let x2:=D.bool false
 let x3:=ae .eql sn0 3
 let x4:=ae .eql sn0 5
 let x5:=ae .eql sn0 12
 let x6:=D.int 0
 let x7:=ae .eql sn0 4
 let x8:=ae .eql sn0 6
 let x9:=ae .eql sn0 10
 let x10:=ae .eql sn0 11
 let x11:=ae .eql sn0 14
 bif ae .eql sn0 1 then some [x0,x1,x2,x1]else bif ae .eql sn0 2 then some [.int 2,x2,x2,x1]else bif az x3 x3 (az x4 x4 (az x5 x5 (ae .eql sn0 13)))then some [x6,x1,x2,x1]else bif az x7 x7 (ae .eql sn0 9)then some [x0,x2,x2,x1]else bif az x8 x8 (ae .eql sn0 7)then some [x0,x2,x1,x1]else bif ae .eql sn0 8 then some [x6,x2,x1,x1]else bif az x9 x9 (az x10 x10 (az x11 x11 (ae .eql sn0 15)))then some [x6,x2,x2,x1]else some [x6,x2,x2,x2]:=by kernel_rfl
def F264_eq:=by have h:= @F264_e;simp only[aE,gd,aj,ai,ak,au,ar,aD,ap]at h;exact h
def q264:uAC:=veil (F264)
theorem QK:q264=F264:=am _
def YC:Tb:=Tb.addF YA 264 S264 (q264)
theorem YD:TbOk env (YC):=aI YB 264 (by kernel_rfl) _ (QK)
def S248_9:LoopS:=⟨0,uF::ufP 0 0::ufS (.lit (.bool false))::uF::uF::uF::uF::utI::uAA 124 [],[(.dat false 187)],[⟨0,0,uT::uT::utS (.lit (.bool false))::uAB 129 [],[(.dat false 187)]⟩,⟨1,0,uT::uT::utS (.lit (.bool false))::uAB 129 [],[(.dat false 187)]⟩]⟩
def qb (p s:List D):Option (Sum (List D) (List D)):=aO env YC 60 12 248 (bc 248 9) S248_9 p s
theorem T5 (pd0:D) (sn0:Int):qb [pd0] [(D.int sn0)] =
 let x0:=aa pd0 3
 let x1:=MO [ax x0 sn0]
 bif ae .lss sn0 (ac x0)then gd (aS x0 sn0)<|gd (ao x1)<|bif b8 (aT (ab x1 0))then ge pd0<|some (Sum.inr [.int 1])else ge pd0<|some (Sum.inl [.int (aM .add .i64 sn0 1)])else ge pd0<|some (Sum.inr [.int 0]):=by kernel_rfl
def Ny:=by have h:= @T5;simp only[aE,gd,aj,ai,ak,au,ar,aD,ap]at h;exact h
def Nz:List D->uAC:=veil fun p s=>loW (qb p) s
theorem C4:Nz=fun p s=>loW (qb p) s:=am _
def zG:Tb:=Tb.addL YC 248 9 S248_9.n0 (bL S248_9 (Nz))
theorem Jx:TbOk env (zG):=aG YD 248 9 (by kernel_rfl) _ (C4)
def S248:FunS:=⟨[utD 187],[],[utB],[]⟩
def F248:uAC:=aN env zG 60 12 248 S248
theorem F248_e (sd0:D):F248 [sd0] =
 let x0:=ah (aa sd0 0)
 let x1:=q264 [.int x0]
 let x2:=az (b8 (aT (ab x1 3))) true (ae .neq (ac (aa sd0 3)) (ah (ab x1 0)))
 let x3:=aT (ab x1 1)
 let x4:=aC (aa sd0 2)
 let x5:=EM [.str x4]
 let x6:Option (List D):=some [.bool false]
 let x7:=ah (aa sd0 1)
 let x8:=ac (aa sd0 6)
 let x9:=Nz [sd0] [.int 0]
 gd (ao x1)<|gd (az x2 true (az x3 (ao x5) true))<|bif az (az (az (az x2 true (az x3 (b8 (aT (ab x5 0))) false)) true (az (b8 x3) (cD .neq x4 (ByteArray.mk #[])) false)) true (az (b8 (aT (ab x1 2))) (ae .gtr (ac (aa sd0 4)) 0) false)) true (az (ae .neq x0 6) (ae .gtr (ac (aa sd0 5)) 0) false)then x6 else bif az (az (az (az (ae .eql x0 2) (ae .neq x7 1) false) (ae .neq x7 2) false) (ae .neq x7 4) false) true (az (ae .neq x0 2) (ae .neq x7 0) false)then x6 else bif az (az (ae .eql x0 9) (az (ae .lss x8 1) true (ae .gtr x8 64)) false) true (az (ae .neq x0 9) (ae .gtr x8 0) false)then x6 else gd (ao x9)<|bif ae .eql (ah (ab x9 0)) 0 then some [.bool true]else x6:=by kernel_rfl
def F248_eq:=by have h:= @F248_e;simp only[aE,gd,aj,ai,ak,au,ar,aD,ap]at h;exact h
def q248:uAC:=veil (F248)
theorem QL:q248=F248:=am _
def YE:Tb:=Tb.addF zG 248 S248 (q248)
theorem YF:TbOk env (YE):=aI Jx 248 (by kernel_rfl) _ (QL)
def S249_2:LoopS:=⟨0,ufR 299::ufI::⟨false, .str⟩::uF::uF::uF::ufS (.lit (.bool false))::utI::uAA 22 [],[],[⟨0,0,ufR 299::ufI::⟨false, .str⟩::uT::uT::uT::utS (.lit (.bool false))::uAB 23 [],[]⟩,⟨1,0,ufR 299::ufI::⟨false, .str⟩::uT::uT::uT::utS (.lit (.bool true))::uAB 23 [],[]⟩]⟩
def vC (p s:List D):Option (Sum (List D) (List D)):=aO env YE 60 12 249 (bc 249 2) S249_2 p s
theorem T6 (pd0:D) (pn1:Int) (ps2:ByteArray) (sn0:Int):vC [pd0,(D.int pn1),(D.str ps2)] [(D.int sn0)] =
 let x0:=aS pd0 sn0
 let x1:=aa (ax pd0 sn0) 0
 let x2:=ae .eql (ah (aa x1 0)) 13
 let x3:=D.int pn1
 let x4:=D.str ps2
 bif ae .lss sn0 pn1 then gd x0<|gd (az x2 x0 true)<|bif az x2 (cD .eql (aC (aa x1 2)) ps2) false then ge pd0<|ge x3<|ge x4<|some (Sum.inr [.int 1])else ge pd0<|ge x3<|ge x4<|some (Sum.inl [.int (aM .add .i64 sn0 1)])else ge pd0<|ge x3<|ge x4<|some (Sum.inr [.int 0]):=by kernel_rfl
def zH:=by have h:= @T6;simp only[aE,gd,aj,ai,ak,au,ar,aD,ap]at h;exact h
def Fs:List D->uAC:=veil fun p s=>loW (vC p) s
theorem C5:Fs=fun p s=>loW (vC p) s:=am _
def zI:Tb:=Tb.addL YE 249 2 S249_2.n0 (bL S249_2 (Fs))
theorem Jy:TbOk env (zI):=aG YF 249 2 (by kernel_rfl) _ (C5)
def S249:FunS:=⟨[utR 299,utI,⟨true, .str⟩],[],[utB],[]⟩
def F249:uAC:=aN env zI 60 12 249 S249
theorem F249_eq (sd0:D) (sn1:Int) (ss2:ByteArray):F249 [sd0,(D.int sn1),(D.str ss2)] =
 bif (ao (Fs [sd0,(D.int sn1),(D.str ss2)] [(D.int 0)]))then
  bif (ae BinOp.eql (ah (ab (Fs [sd0,(D.int sn1),(D.str ss2)] [(D.int 0)]) 0)) 0)then
   some [(D.bool Bool.false)]
  else
   some [(D.bool Bool.true)]
 else
  none:=by kernel_rfl
def YG:uAC:=veil (F249)
theorem QM:YG=F249:=am _
def YH:Tb:=Tb.addF zI 249 S249 (YG)
theorem YI:TbOk env (YH):=aI Jy 249 (by kernel_rfl) _ (QM)
def S229_3:LoopS:=⟨0,uF::ufR 65::ufR 299::ufI::ufP 0 0::uF::uF::uF::ufZ::ufP 1 0::utI::uAA 104 [],[(.cells [ufI,ufI,⟨false, .str⟩,ufR 25,ufR 187,ufR 187,ufR 36]),(.dat false 197)],[⟨0,0,uT::ufR 65::ufR 299::ufI::utP 0 0::uT::uT::uT::utZ::utP 1 0::uAB 105 [],[(.cells [ufI,ufI,⟨false, .str⟩,ufR 25,ufR 187,ufR 187,ufR 36]),(.dat false 197)]⟩,⟨1,0,uT::ufR 65::ufR 299::ufI::uT::uT::uT::uT::utS (.lit (.int .i64 20))::uAB 106 [],[(.cells [ufI,ufI,⟨false, .str⟩,ufR 25,ufR 187,ufR 187,ufR 36]),(.dat false 197)]⟩]⟩
def vD (p s:List D):Option (Sum (List D) (List D)):=aO env YH 60 12 229 (bc 229 3) S229_3 p s
theorem T7 (pd0:D) (pd1:D) (pn2:Int) (pn3:Int) (pn4:Int) (ps5:ByteArray) (pd6:D) (pd7:D) (pd8:D) (pd9:D) (pd10:D) (sn0:Int):vD [pd0,pd1,(D.int pn2),(D.int pn3),(D.int pn4),(D.str ps5),pd6,pd7,pd8,pd9,pd10] [(D.int sn0)] =
 let x0:=Tn [ax pd6 sn0,.int 64]
 let x1:=D.int pn2
 let x2:=D.int pn3
 let x3:=D.int pn4
 let x4:=D.str ps5
 bif ae .lss sn0 (ac pd6)then gd (aS pd6 sn0)<|gd (ao x0)<|bif aT (ab x0 0)then ge pd0<|ge pd1<|ge x1<|ge x2<|ge x3<|ge x4<|ge pd6<|ge pd7<|ge pd8<|ge pd9<|ge pd10<|some (Sum.inr [.int 1])else ge pd0<|ge pd1<|ge x1<|ge x2<|ge x3<|ge x4<|ge pd6<|ge pd7<|ge pd8<|ge pd9<|ge pd10<|some (Sum.inl [.int (aM .add .i64 sn0 1)])else ge pd0<|ge pd1<|ge x1<|ge x2<|ge x3<|ge x4<|ge pd6<|ge pd7<|ge pd8<|ge pd9<|ge pd10<|some (Sum.inr [.int 0]):=by kernel_rfl
def NA:=by have h:= @T7;simp only[aE,gd,aj,ai,ak,au,ar,aD,ap]at h;exact h
def NB:List D->uAC:=veil fun p s=>loW (vD p) s
theorem C6:NB=fun p s=>loW (vD p) s:=am _
def zJ:Tb:=Tb.addL YH 229 3 S229_3.n0 (bL S229_3 (NB))
theorem Jz:TbOk env (zJ):=aG YI 229 3 (by kernel_rfl) _ (C6)
def S229_10:LoopS:=⟨0,uF::ufR 65::ufR 299::ufI::ufP 0 0::uF::uF::uF::ufZ::ufP 1 0::uF::utI::uAA 103 [],[(.cells [ufI,ufI,⟨false, .str⟩,ufR 25,ufR 187,ufR 187,ufR 36]),(.dat false 197)],[⟨0,2,uT::ufR 65::ufR 299::ufI::utP 0 0::uT::uT::uT::utZ::utP 1 0::uAB 105 [],[(.cells [ufI,ufI,⟨false, .str⟩,ufR 25,ufR 187,ufR 187,ufR 36]),(.dat false 197)]⟩,⟨1,0,uT::ufR 65::ufR 299::ufI::uT::uT::uT::uT::utS (.lit (.int .i64 17))::uAB 106 [],[(.cells [ufI,ufI,⟨false, .str⟩,ufR 25,ufR 187,ufR 187,ufR 36]),(.dat false 197)]⟩]⟩
def qc (p s:List D):Option (Sum (List D) (List D)):=aO env zJ 60 12 229 (bc 229 10) S229_10 p s
theorem NC (pd0:D) (pd1:D) (pn2:Int) (pn3:Int) (pn4:Int) (ps5:ByteArray) (pd6:D) (pd7:D) (pd8:D) (pd9:D) (pd10:D) (sn0:Int):qc [pd0,pd1,(D.int pn2),(D.int pn3),(D.int pn4),(D.str ps5),pd6,pd7,pd8,pd9,pd10] [(D.int sn0)] =
 let x0:=MS [ax pd6 sn0,pd0]
 let x1:=D.int pn2
 let x2:=D.int pn3
 let x3:=D.int pn4
 let x4:=D.str ps5
 bif ae .lss sn0 (ac pd6)then gd (aS pd6 sn0)<|gd (ao x0)<|bif b8 (aT (ab x0 0))then ge pd0<|ge pd1<|ge x1<|ge x2<|ge x3<|ge x4<|ge pd6<|ge pd7<|ge pd8<|ge pd9<|ge pd10<|some (Sum.inr [.int 1])else ge pd0<|ge pd1<|ge x1<|ge x2<|ge x3<|ge x4<|ge pd6<|ge pd7<|ge pd8<|ge pd9<|ge pd10<|some (Sum.inl [.int (aM .add .i64 sn0 1)])else ge pd0<|ge pd1<|ge x1<|ge x2<|ge x3<|ge x4<|ge pd6<|ge pd7<|ge pd8<|ge pd9<|ge pd10<|some (Sum.inr [.int 0]):=by kernel_rfl
def JA:=by have h:= @NC;simp only[aE,gd,aj,ai,ak,au,ar,aD,ap]at h;exact h
def Ft:List D->uAC:=veil fun p s=>loW (qc p) s
theorem zK:Ft=fun p s=>loW (qc p) s:=am _
def r8:Tb:=Tb.addL zJ 229 10 S229_10.n0 (bL S229_10 (Ft))
theorem Fu:TbOk env (r8):=aG Jz 229 10 (by kernel_rfl) _ (zK)
def S229:FunS:=⟨[utD 197,utR 65,utR 299,utI],[],[utI],[]⟩
def F229:uAC:=aN env r8 60 12 229 S229
theorem F229_e (sd0:D) (sd1:D) (sd2:D) (sn3:Int):F229 [sd0,sd1,sd2,(D.int sn3)] =
 let x0:=aS sd2 sn3
 let x1:=ax sd2 sn3
 let x2:=aa x1 0
 let x3:=ah (aa x2 0)
 let x4:=D.int (ah (aa x2 1))
 let x5:=D.str (aC (aa x2 2))
 let x6:List D:=[sd1,sd2,.int sn3,.int x3,x4,x5,aa x2 3,aa x2 4,aa x2 5,aa x2 6,sd0]
 let x7:List D:=[.int 0]
 let x8:=NB x6 x7
 let x9:=q248 [.agg [.int x3,x4,x5,aa x2 3,aa x2 4,aa x2 5,aa x2 6]]
 let x10:=Ft x6 x7
 let x11:=az (ae .eql x3 1) true (ae .eql x3 3)
 let x12:=MJ [sd1,x5]
 let x13:Option (List D):=some [.int 17]
 let x14:=ae .eql x3 5
 let x15:=Yr [aa sd0 2,.int (ac (aa sd0 2)),x5]
 let x16:=ae .eql x3 12
 let x17:=YG [sd2,.int (ac sd2),x5]
 let x18:=az (ae .eql x3 10) true (ae .eql x3 11)
 let x19:=ae .eql x3 13
 let x20:=YG [sd2,.int sn3,x5]
 gd x0<|gd (ao x8)<|bif ae .eql (ah (ab x8 0)) 0 then gd (ao x9)<|bif b8 (aT (ab x9 0))then some [.int 2]else gd (ao x10)<|bif ae .eql (ah (ab x10 0)) 0 then gd (az x11 (ao x12) true)<|bif az x11 (b8 (aT (ab x12 0))) false then x13 else gd (az x14 (ao x15) true)<|bif az x14 (b8 (aT (ab x15 0))) false then x13 else gd (az x16 (ao x17) true)<|bif az x16 (b8 (aT (ab x17 0))) false then x13 else gd (az x18 x0 true)<|bif az x18 (b8 (aT (aa x1 1))) false then some [.int 21]else gd (az x19 (ao x20) true)<|bif az x19 (aT (ab x20 0)) false then some [.int 8]else some x7 else x13 else some [.int 20]:=by kernel_rfl
def F229_eq:=by have h:= @F229_e;simp only[aE,gd,aj,ai,ak,au,ar,aD,ap]at h;exact h
def q229:uAC:=veil (F229)
theorem QN:q229=F229:=am _
def YJ:Tb:=Tb.addF r8 229 S229 (q229)
theorem YK:TbOk env (YJ):=aI Fu 229 (by kernel_rfl) _ (QN)
def S180_15:LoopS:=⟨0,uF::uF::ufP 0 0::uF::ufZ::uF::ufR 299::ufO 1 65::utI::uAA 48 [],[(.lst false 65),(.dat false 197)],[⟨0,0,uT::uT::uT::uT::utZ::uT::ufR 299::uAB 50 [],[(.lst false 65),(.dat false 197)]⟩,⟨1,0,uT::uT::uT::uT::utI::uT::ufR 299::uAB 50 [],[(.lst false 65),(.dat false 197)]⟩]⟩
def qd (p s:List D):Option (Sum (List D) (List D)):=aO env YJ 60 12 180 (bc 180 15) S180_15 p s
theorem ND (pd0:D) (pd1:D) (pd2:D) (sn0:Int):qd [pd0,pd1,pd2] [(D.int sn0)] =
 let x0:=ae .eql (ac pd1) (ac pd1)
 let x1:=q229 [pd2,pd1,pd0,.int sn0]
 let x2:=ah (ab x1 0)
 bif ae .lss sn0 (ac pd0)then gd x0<|gd (ao x1)<|bif ae .neq x2 0 then ge pd0<|ge pd1<|ge pd2<|some (Sum.inr [.int 1,.int x2])else gd x0<|ge pd0<|ge pd1<|ge pd2<|some (Sum.inl [.int (aM .add .i64 sn0 1)])else ge pd0<|ge pd1<|ge pd2<|some (Sum.inr [.int 0]):=by kernel_rfl
def t0:=by have h:= @ND;simp only[aE,gd,aj,ai,ak,au,ar,aD,ap]at h;exact h
def Fv:List D->uAC:=veil fun p s=>loW (qd p) s
theorem zL:Fv=fun p s=>loW (qd p) s:=am _
def r9:Tb:=Tb.addL YJ 180 15 S180_15.n0 (bL S180_15 (Fv))
theorem Fw:TbOk env (r9):=aG YK 180 15 (by kernel_rfl) _ (zL)
def S180:FunS:=⟨[utD 197,utD 38],[],[utI],[]⟩
def F180:uAC:=aN env r9 60 12 180 S180
theorem F180_e (sd0:D) (sd1:D):F180 [sd0,sd1] =
 let x0:=aa sd1 1
 let x1:=aa sd0 0
 let x2:=ac x1
 let x3:Option (List D):=some [.int 6]
 let x4:=Ym [x1,x0]
 let x5:=ah (ab x4 0)
 let x6:=q227 [aa sd1 2,.int 65]
 let x7:=q228 [aa sd1 2,.bool false]
 let x8:=bt x1 x0
 let x9:=ac x8
 let x10:=Fv [ab x7 0,x8,sd0] [.int 0]
 bif ae .gtr (aM .add .i64 (ac x0) x2) 256 then x3 else gd (ao x4)<|bif ae .neq x5 0 then some [.int x5]else gd (ao x6)<|bif ae .gtr (ah (ab x6 0)) 64 then some [.int 20]else gd (ao x7)<|bif ae .gtr (ac (ab x7 0)) 1024 then x3 else gd (ci x2 88)<|gd (ae .eql x2 x2)<|gd (ci x9 88)<|gd (ae .eql x9 x9)<|gd (ao x10)<|bif ae .eql (ah (ab x10 0)) 0 then some [.int 0]else some [.int (ah (ab x10 1))]:=by kernel_rfl
def F180_eq:=by have h:= @F180_e;simp only[aE,gd,aj,ai,ak,au,ar,aD,ap]at h;exact h
def YL:uAC:=veil (F180)
theorem QO:YL=F180:=am _
def YM:Tb:=Tb.addF r9 180 S180 (YL)
theorem YN:TbOk env (YM):=aI Fw 180 (by kernel_rfl) _ (QO)
def S120_12:LoopS:=⟨0,uF::ufP 0 0::ufZ::uF::utI::uAA 75 [],[(.dat false 197)],[⟨0,0,uT::utP 0 0::utZ::uAB 77 [],[(.dat false 197)]⟩,⟨1,0,uT::uT::utI::uAB 77 [],[(.dat false 197)]⟩]⟩
def qe (p s:List D):Option (Sum (List D) (List D)):=aO env YM 60 12 120 (bc 120 12) S120_12 p s
theorem NE (pd0:D) (sn0:Int):qe [pd0] [(D.int sn0)] =
 let x0:=aa pd0 2
 let x1:=aS x0 sn0
 let x2:=D.str (aC (aa (ax x0 sn0) 0))
 let x3:=EM [x2]
 let x4:=Yr [x0,.int sn0,x2]
 bif ae .lss sn0 (ac x0)then gd x1<|gd (ao x3)<|bif b8 (aT (ab x3 0))then ge pd0<|some (Sum.inr [.int 1,.int 3])else gd x1<|gd (ao x4)<|bif aT (ab x4 0)then ge pd0<|some (Sum.inr [.int 1,.int 8])else ge pd0<|some (Sum.inl [.int (aM .add .i64 sn0 1)])else ge pd0<|some (Sum.inr [.int 0]):=by kernel_rfl
def t6:=by have h:= @NE;simp only[aE,gd,aj,ai,ak,au,ar,aD,ap]at h;exact h
def Fx:List D->uAC:=veil fun p s=>loW (qe p) s
theorem zM:Fx=fun p s=>loW (qe p) s:=am _
def sb:Tb:=Tb.addL YM 120 12 S120_12.n0 (bL S120_12 (Fx))
theorem Fy:TbOk env (sb):=aG YN 120 12 (by kernel_rfl) _ (zM)
def S120_19:LoopS:=⟨0,uF::ufP 0 0::ufZ::uF::uF::utI::uAA 74 [],[(.dat false 197)],[⟨0,2,uT::uT::utZ::uAB 77 [],[(.dat false 197)]⟩,⟨1,0,uT::uT::utI::uAB 77 [],[(.dat false 197)]⟩]⟩
def qf (p s:List D):Option (Sum (List D) (List D)):=aO env sb 60 12 120 (bc 120 19) S120_19 p s
theorem NF (pd0:D) (sn0:Int):qf [pd0] [(D.int sn0)] =
 let x0:=aa pd0 2
 let x1:=YL [pd0,ax x0 sn0]
 let x2:=ah (ab x1 0)
 bif ae .lss sn0 (ac x0)then gd (aS x0 sn0)<|gd (ao x1)<|bif ae .neq x2 0 then ge pd0<|some (Sum.inr [.int 1,.int x2])else ge pd0<|some (Sum.inl [.int (aM .add .i64 sn0 1)])else ge pd0<|some (Sum.inr [.int 0]):=by kernel_rfl
def t7:=by have h:= @NF;simp only[aE,gd,aj,ai,ak,au,ar,aD,ap]at h;exact h
def Fz:List D->uAC:=veil fun p s=>loW (qf p) s
theorem zN:Fz=fun p s=>loW (qf p) s:=am _
def sd:Tb:=Tb.addL sb 120 19 S120_19.n0 (bL S120_19 (Fz))
theorem FA:TbOk env (sd):=aG Fy 120 19 (by kernel_rfl) _ (zN)
def S120:FunS:=⟨[utD 197],[],[utI],[]⟩
def F120:uAC:=aN env sd 60 12 120 S120
theorem F120_e (sd0:D):F120 [sd0] =
 let x0:=ac (aa sd0 2)
 let x1:=Ym [.list [],aa sd0 0]
 let x2:=ah (ab x1 0)
 let x3:=q178 [aa sd0 1]
 let x4:=ah (ab x3 0)
 let x5:List D:=[.int 0]
 let x6:=Fx [sd0] x5
 let x7:=Fz [sd0] x5
 bif az (az (ae .gtr (ac (aa sd0 0)) 256) true (ae .gtr (ac (aa sd0 1)) 16)) true (ae .gtr x0 64)then some [.int 6]else bif ae .eql x0 0 then some [.int 17]else gd (ao x1)<|bif ae .neq x2 0 then some [.int x2]else gd (ao x3)<|bif ae .neq x4 0 then some [.int x4]else gd (ao x6)<|bif ae .eql (ah (ab x6 0)) 0 then gd (ao x7)<|bif ae .eql (ah (ab x7 0)) 0 then some x5 else some [.int (ah (ab x7 1))]else some [.int (ah (ab x6 1))]:=by kernel_rfl
def F120_eq:=by have h:= @F120_e;simp only[aE,gd,aj,ai,ak,au,ar,aD,ap]at h;exact h
def q120:uAC:=veil (F120)
theorem QP:q120=F120:=am _
def t8:Tb:=Tb.addF sd 120 S120 (q120)
theorem zO:TbOk env (t8):=aI FA 120 (by kernel_rfl) _ (QP)
def S48:FunS:=⟨[utR 9],[],[utO 0 9],[(.lst true 9)]⟩
theorem run48n (c:Nat):jn (gT env t8 48) (f6 env t8 60 12) 60 48 [.sc (.slice none 0 c)] (eD S48 [] []) (oz S48 [])=some [.list []]:=by
 have h:jn (gT env t8 48) (f6 env t8 60 12) 60 48 [.sc (.slice none 0 c)] (eD S48 [] []) (oz S48 [])=bif ae BinOp.eql 0 (ac (D.list []))then some [.list []]else none:=by kernel_rfl
 rw[h,show ae BinOp.eql 0 (ac (D.list []))=true from ar []];rfl
theorem run48z (d:D):jn (gT env t8 48) (f6 env t8 60 12) 60 48 [.rowz 9 d] (eD S48 [] []) (oz S48 []) =
 bif ci (ac (bt (D.list []) d)) 16 then(bif (ae BinOp.eql (ac (bt (D.list []) d)) (ac (bt (D.list []) d)))then some [bt (D.list []) d]else none)else none:=by kernel_rfl
def F48 (ds:List D):Option (List D):=bif ci (ac (bt (D.list []) (ds.headD .other))) 16 then some [bt (D.list []) (ds.headD .other)]else none
def q48:uAC:=veil F48
theorem YO:q48=F48:=am _
theorem sound48:aH env.P 48 S48 q48:=by
 intro p s r hp hq lo w0 ρ E w vs inv ra;obtain rfl:p = []:=gv.1 hp;have ha:uE S48 [] s = [.rows 9 (s.headD .other)]:=by
  cases s<;>rfl
 have hh:eD S48 [] s=eD S48 [] []:=rfl;rw[YO]at hq;unfold F48 at hq;simp only[dY]at hq;rw[ha]at ra;generalize hd:s.headD .other=d at *;cases hm:ci (ac (bt (D.list []) d)) 16 with
 |false=>rw[hm]at hq;cases hq
 |true=>
  rw[hm]at hq;simp only[ap,aQ]at hq;subst hq;rw[hh]at inv;generalize hvs:vs.toList=vl at ra;obtain⟨v,vl',rfl,rv,hn⟩:∃v vs',vl=v::vs'∧Rep ρ E w (AV.rows 9 d) v∧vs' = []:=by simpa only[RepL]using ra
  ·subst hn;simp only[Rep]at rv;obtain⟨a,cap,rfl,hc,hx⟩:=id rv;cases a with
   |none=>
    have he:d.toList = []:=by
     rcases hx with h|⟨_,_,h,_⟩
     ·exact h
     ·cases h
    have he':bt (D.list []) d = .list []:=by rw[nk];unfold D.app;rw[he];rfl
    rw[he'];refine pO (av:=[.sc (.slice none 0 cap)]) jt zO 60 12 (run48n cap) rfl lo w0 ρ E w vs inv ?_
    rw[hvs,he];simp[RepL,Rep]
   |some a=>
    refine pO (av:=[.rowz 9 d]) jt zO 60 12 (p:=[]) (r:=[bt (D.list []) d]) (S:=S48) (by rw[run48z,hm,ai];rfl) rfl lo w0 ρ E w vs inv ?_
    rw[hvs];simp only[RepL];exact⟨_,_,rfl,by simp only[Rep];exact⟨rv,_,_,_,rfl⟩,rfl⟩
def JB:Tb:=Tb.addF t8 48 S48 q48
theorem FB:TbOk env JB:=TbOk.addF zO (by kernel_rfl) sound48
def uK:FunS:=⟨[utR 65],[],[utO 0 65],[(.lst true 65)]⟩
theorem run218n (c:Nat):jn (gT env JB 218) (f6 env JB 60 12) 60 218 [.sc (.slice none 0 c)] (eD uK [] []) (oz uK [])=some [.list []]:=by
 have h:jn (gT env JB 218) (f6 env JB 60 12) 60 218 [.sc (.slice none 0 c)] (eD uK [] []) (oz uK [])=bif ae BinOp.eql 0 (ac (D.list []))then some [.list []]else none:=by kernel_rfl
 rw[h,show ae BinOp.eql 0 (ac (D.list []))=true from ar []];rfl
theorem run218z (d:D):jn (gT env JB 218) (f6 env JB 60 12) 60 218 [.rowz 65 d] (eD uK [] []) (oz uK []) =
 bif ci (ac (bt (D.list []) d)) 88 then(bif (ae BinOp.eql (ac (bt (D.list []) d)) (ac (bt (D.list []) d)))then some [bt (D.list []) d]else none)else none:=by kernel_rfl
def F218 (ds:List D):Option (List D):=bif ci (ac (bt (D.list []) (ds.headD .other))) 88 then some [bt (D.list []) (ds.headD .other)]else none
def JC:uAC:=veil F218
theorem QQ:JC=F218:=am _
theorem YP:aH env.P 218 uK JC:=by
 intro p s r hp hq lo w0 ρ E w vs inv ra;obtain rfl:p = []:=gv.1 hp;have ha:uE uK [] s = [.rows 65 (s.headD .other)]:=by
  cases s<;>rfl
 have hh:eD uK [] s=eD uK [] []:=rfl;rw[QQ]at hq;unfold F218 at hq;simp only[dY]at hq;rw[ha]at ra;generalize hd:s.headD .other=d at *;cases hm:ci (ac (bt (D.list []) d)) 88 with
 |false=>rw[hm]at hq;cases hq
 |true=>
  rw[hm]at hq;simp only[ap,aQ]at hq;subst hq;rw[hh]at inv;generalize hvs:vs.toList=vl at ra;obtain⟨v,vl',rfl,rv,hn⟩:∃v vs',vl=v::vs'∧Rep ρ E w (AV.rows 65 d) v∧vs' = []:=by simpa only[RepL]using ra
  ·subst hn;simp only[Rep]at rv;obtain⟨a,cap,rfl,hc,hx⟩:=id rv;cases a with
   |none=>
    have he:d.toList = []:=by
     rcases hx with h|⟨_,_,h,_⟩
     ·exact h
     ·cases h
    have he':bt (D.list []) d = .list []:=by rw[nk];unfold D.app;rw[he];rfl
    rw[he'];refine pO (av:=[.sc (.slice none 0 cap)]) jt FB 60 12 (run218n cap) rfl lo w0 ρ E w vs inv ?_
    rw[hvs,he];simp[RepL,Rep]
   |some a=>
    refine pO (av:=[.rowz 65 d]) jt FB 60 12 (p:=[]) (r:=[bt (D.list []) d]) (S:=uK) (by rw[run218z,hm,ai];rfl) rfl lo w0 ρ E w vs inv ?_
    rw[hvs];simp only[RepL];exact⟨_,_,rfl,by simp only[Rep];exact⟨rv,_,_,_,rfl⟩,rfl⟩
def YQ:Tb:=Tb.addF JB 218 uK JC
theorem YR:TbOk env YQ:=TbOk.addF FB (by kernel_rfl) YP
def S116_2:LoopS:=⟨0,ufR 9::⟨false, .str⟩::uF::uF::ufZ::uF::uF::ufI::utI::uAA 10 [],[],[⟨0,0,ufR 9::⟨false, .str⟩::uT::uT::utZ::uT::uT::ufI::uAB 11 [],[]⟩,⟨1,0,ufR 9::⟨false, .str⟩::uT::uT::utI::uT::uT::ufI::uAB 11 [],[]⟩]⟩
def qg (p s:List D):Option (Sum (List D) (List D)):=aO env YQ 60 12 116 (bc 116 2) S116_2 p s
theorem T8 (pd0:D) (ps1:ByteArray) (pn2:Int) (sn0:Int):qg [pd0,(D.str ps1),(D.int pn2)] [(D.int sn0)] =
 let x0:=D.str ps1
 let x1:=D.int pn2
 bif ae .lss sn0 pn2 then gd (aS pd0 sn0)<|bif cD .eql ps1 (aC (ax pd0 sn0))then ge pd0<|ge x0<|ge x1<|some (Sum.inr [.int 1,.int sn0])else ge pd0<|ge x0<|ge x1<|some (Sum.inl [.int (aM .add .i64 sn0 1)])else ge pd0<|ge x0<|ge x1<|some (Sum.inr [.int 0]):=by kernel_rfl
def zP:=by have h:= @T8;simp only[aE,gd,aj,ai,ak,au,ar,aD,ap]at h;exact h
def NG:List D->uAC:=veil fun p s=>loW (qg p) s
theorem C7:NG=fun p s=>loW (qg p) s:=am _
def zQ:Tb:=Tb.addL YQ 116 2 S116_2.n0 (bL S116_2 (NG))
theorem JD:TbOk env (zQ):=aG YR 116 2 (by kernel_rfl) _ (C7)
def S116:FunS:=⟨[utR 9,⟨true, .str⟩],[],[utI],[]⟩
def F116:uAC:=aN env zQ 60 12 116 S116
theorem F116_e (sd0:D) (ss1:ByteArray):F116 [sd0,(D.str ss1)] =
 let y0:=NG [sd0,(.str ss1),(.int (ac sd0))] [(.int 0)]
 gd (ao y0)<|bif ae .eql (ah (ab y0 0)) 0 then some [.int (-1)]else some [.int (ah (ab y0 1))]:=by kernel_rfl
def F116_eq:=by have h:= @F116_e;simp only[aE,gd,aj,ai,ak,au,ar,aD,ap]at h;exact h
def BU:uAC:=veil (F116)
theorem QR:BU=F116:=am _
def YS:Tb:=Tb.addF zQ 116 S116 (BU)
theorem YT:TbOk env (YS):=aI JD 116 (by kernel_rfl) _ (QR)
def S113:FunS:=⟨[utR 9,⟨true, .str⟩],[],[utB],[]⟩
def F113:uAC:=aN env YS 60 12 113 S113
theorem F113_e (sd0:D) (ss1:ByteArray):F113 [sd0,(D.str ss1)] =
 let y0:=ao (BU [sd0,(.str ss1)])
 let y1:=ab (BU [sd0,(.str ss1)]) 0
 gd y0<|some [.bool (ae .geq (ah y1) 0)]:=by kernel_rfl
def F113_eq:=by have h:= @F113_e;simp only[aE,gd,aj,ai,ak,au,ar,aD,ap]at h;exact h
def JE:uAC:=veil (F113)
theorem QS:JE=F113:=am _
def YU:Tb:=Tb.addF YS 113 S113 (JE)
theorem YV:TbOk env (YU):=aI YT 113 (by kernel_rfl) _ (QS)
def S168_3:LoopS:=⟨0,uF::uF::uF::uF::ufZ::ufO 0 65::uAA 5 (ufR 65::ufI::utI::uAA 25 []),[(.lst true 65)],[⟨0,0,uT::uT::uT::uT::utZ::uAB 6 (ufR 65::ufI::uAB 26 []),[.skip]⟩,⟨1,0,uT::uT::uT::uT::utI::uAB 6 (ufR 65::ufI::uAB 26 []),[.skip]⟩]⟩
def vE (p s:List D):Option (Sum (List D) (List D)):=aO env YU 60 12 168 (bc 168 3) S168_3 p s
theorem Ua (pd0:D) (pn1:Int) (sn0:Int) (sd1:D):vE [pd0,(D.int pn1)] [(D.int sn0),sd1] =
 let y0:=BO [(.str (aC (aa (ax pd0 sn0) 0)))]
 let y1:=Tv [(.str (aC (aa (ax pd0 sn0) 0))),sd1]
 let y2:=XZ [(.agg [(.int (ah (aa (aa (ax pd0 sn0) 1) 0))),(.int (ah (aa (aa (ax pd0 sn0) 1) 1))),(.int (ah (aa (aa (ax pd0 sn0) 1) 2))),(aa (aa (ax pd0 sn0) 1) 3),(aa (aa (ax pd0 sn0) 1) 4)])]
 let y3:=bt sd1 (.list [(.agg [(.str (aC (aa (ax pd0 sn0) 0))),(.agg [(.int (ah (aa (aa (ax pd0 sn0) 1) 0))),(.int (ah (aa (aa (ax pd0 sn0) 1) 1))),(.int (ah (aa (aa (ax pd0 sn0) 1) 2))),(aa (aa (ax pd0 sn0) 1) 3),(aa (aa (ax pd0 sn0) 1) 4)])])])
 let x0:=D.int pn1
 let x1:=D.int 1
 let x2:=ae .eql (ac sd1) (ac sd1)
 let x3:=ah (ab y2 0)
 let x4:=ac y3
 bif ae .lss sn0 pn1 then gd (aS pd0 sn0)<|gd (ao y0)<|bif b8 (aT (ab y0 0))then ge pd0<|ge x0<|some (Sum.inr [x1,.int 3])else gd x2<|gd (ao y1)<|ge (ax pd0 sn0)<|bif aT (ab y1 0)then ge pd0<|ge x0<|some (Sum.inr [x1,.int 8])else gd (ao y2)<|bif ae .neq x3 0 then ge pd0<|ge x0<|some (Sum.inr [x1,.int x3])else gd x2<|gd (ci x4 88)<|gd (ae .eql x4 x4)<|ge pd0<|ge x0<|some (Sum.inl [.int (aM .add .i64 sn0 1),y3])else ge pd0<|ge x0<|some (Sum.inr [.int 0]):=by kernel_rfl
def zR:=by have h:= @Ua;simp only[aE,gd,aj,ai,ak,au,ar,aD,ap]at h;exact h
def NH:List D->uAC:=veil fun p s=>loW (vE p) s
theorem C8:NH=fun p s=>loW (vE p) s:=am _
def zS:Tb:=Tb.addL YU 168 3 S168_3.n0 (bL S168_3 (NH))
theorem JF:TbOk env (zS):=aG YV 168 3 (by kernel_rfl) _ (C8)
def S168:FunS:=⟨[utR 65,utR 65],[],[utI],[]⟩
def F168:uAC:=aN env zS 60 12 168 S168
theorem F168_e (sd0:D) (sd1:D):F168 [sd0,sd1] =
 let y0:=ae .eql (ac (ab (JC [sd0]) 0)) (ac (ab (JC [sd0]) 0))
 let y1:=NH [sd1,(.int (ac sd1))] [(.int 0),(ab (JC [sd0]) 0)]
 gd (ao (JC [sd0]))<|gd y0<|gd (ao y1)<|bif ae .eql (ah (ab y1 0)) 0 then some [.int 0]else some [.int (ah (ab y1 1))]:=by kernel_rfl
def F168_eq:=by have h:= @F168_e;simp only[aE,gd,aj,ai,ak,au,ar,aD,ap]at h;exact h
def YW:uAC:=veil (F168)
theorem QT:YW=F168:=am _
def YX:Tb:=Tb.addF zS 168 S168 (YW)
theorem YY:TbOk env (YX):=aI JF 168 (by kernel_rfl) _ (QT)
def S278:FunS:=⟨[utN,utI],[],[utS (.oslc 0 36)],[(.lst true 36)]⟩
def F278:uAC:=aN env YX 60 12 278 S278
theorem F278_e (sn0:Int):F278 [(D.int sn0)] =
 let y0:=dA (LA (aM .sub .i64 sn0 0) (.list [])) 0 0
 let x0:=aM .sub .i64 sn0 0
 bif ae .lss sn0 0 then none else bif ae .gtr x0 0 then gd (ae .lss 0 x0)<|gd (ci x0 24)<|gd (ae .leq 0 0)<|gd (ae .leq 0 x0)<|gd (ae .eql 0 (ac y0))<|some [y0]else gd (ae .eql 0 (ac (.list [])))<|some [.list []]:=by kernel_rfl
def F278_eq:=by have h:= @F278_e;simp only[aE,gd,aj,ai,ak,au,ar,aD,ap]at h;exact h
def q278:uAC:=veil (F278)
theorem QU:q278=F278:=am _
def YZ:Tb:=Tb.addF YX 278 S278 (q278)
theorem Y0:TbOk env (YZ):=aI YY 278 (by kernel_rfl) _ (QU)
def S240:FunS:=⟨[utD 187],[],[utR 36],[]⟩
def F240:uAC:=aN env YZ 60 12 240 S240
theorem F240_e (sd0:D):F240 [sd0] =
 let y0:=ae .lss (aM .add .i64 2 (ac (aa sd0 6))) 0
 let y1:=q278 [(.int (aM .add .i64 2 (ac (aa sd0 6))))]
 let y2:=ac (bt (ab y1 0) (.list [(aa sd0 4),(aa sd0 5)]))
 let y3:=bt (bt (ab y1 0) (.list [(aa sd0 4),(aa sd0 5)])) (aa sd0 6)
 let x0:=ac (ab y1 0)
 let x1:=ac y3
 bif y0 then none else gd (ao y1)<|gd (ae .eql x0 x0)<|gd (ci y2 24)<|gd (ae .eql y2 y2)<|gd (ci x1 24)<|gd (ae .eql x1 x1)<|some [y3]:=by kernel_rfl
def F240_eq:=by have h:= @F240_e;simp only[aE,gd,aj,ai,ak,au,ar,aD,ap]at h;exact h
def NI:uAC:=veil (F240)
theorem QV:NI=F240:=am _
def Y1:Tb:=Tb.addF YZ 240 S240 (NI)
theorem JG:TbOk env (Y1):=aI Y0 240 (by kernel_rfl) _ (QV)
def NJ:FunS:=⟨[utR 187],[],[utI],[]⟩
def NK (Q:uAC):Tb:=Tb.addF Y1 221 NJ Q
theorem Ub (Q:uAC) (hQ:aH env.P 221 NJ Q):TbOk env (NK Q):=TbOk.addF JG (by kernel_rfl) hQ
def S221_7:LoopS:=⟨0,uF::uF::ufZ::ufI::uF::uF::utI::uF::uF::ufR 187::ufI::ufI::uF::uF::uF::uF::ufR 36::ufI::utI::uAA 14 [],[],[⟨0,2,uT::uT::utZ::ufI::uT::uT::utI::uT::uT::ufR 187::ufI::ufI::uT::uT::uT::uT::ufR 36::ufI::uAB 15 [],[]⟩]⟩
def vF (Q:uAC) (p s:List D):Option (Sum (List D) (List D)):=aO env (NK Q) 60 12 221 (bc 221 7) S221_7 p s
theorem Uc (Q:uAC) (pn0:Int) (pd1:D) (pn2:Int) (pn3:Int) (pd4:D) (pn5:Int) (sn0:Int) (sn1:Int):vF Q [(D.int pn0),pd1,(D.int pn2),(D.int pn3),pd4,(D.int pn5)] [(D.int sn0),(D.int sn1)] =
 let y0:=aM .add .i64 1 (ah (ab (Q [(ax pd4 sn1)]) 0))
 bif ae .lss sn1 pn5 then gd (aS pd4 sn1)<|gd (ao (Q [ax pd4 sn1]))<|ge (.int pn0)<|ge pd1<|ge (.int pn2)<|ge (.int pn3)<|ge pd4<|ge (.int pn5)<|some (Sum.inl [.int (qmm .gtr sn0 y0),.int (aM .add .i64 sn1 1)])else ge (.int pn0)<|ge pd1<|ge (.int pn2)<|ge (.int pn3)<|ge pd4<|ge (.int pn5)<|some (Sum.inr [.int 0,.int sn0]):=by kernel_rfl
def zU:=by have h:= @Uc;simp only[aE,gd,aj,ai,ak,au,ar,aD,ap]at h;exact h
def FC (Q:uAC):List D->uAC:=veil fun p s=>loW (vF Q p) s
theorem C9 (Q:uAC):FC Q=fun p s=>loW (vF Q p) s:=am _
def zV (Q:uAC):Tb:=Tb.addL (NK Q) 221 7 S221_7.n0 (bL S221_7 (FC Q))
theorem JH (Q:uAC) (hQ:aH env.P 221 NJ Q):TbOk env (zV Q):=aG (Ub Q hQ) 221 7 (by kernel_rfl) _ (C9 Q)
def S221_3:LoopS:=⟨0,uF::uF::ufZ::utI::uAA 5 (ufR 187::ufI::utI::uAA 21 []),[],[⟨0,0,uT::uT::utZ::utI::uAB 5 (ufR 187::ufI::uAB 22 []),[]⟩]⟩
def vG (Q:uAC) (p s:List D):Option (Sum (List D) (List D)):=aO env (zV Q) 60 12 221 (bc 221 3) S221_3 p s
theorem Ud (Q:uAC) (pd0:D) (pn1:Int) (sn0:Int) (sn1:Int):vG Q [pd0,(D.int pn1)] [(D.int sn0),(D.int sn1)] =
 let y0:=ab (NI [(ax pd0 sn1)]) 0
 let y1:=FC Q [(.int sn0),pd0,(.int pn1),(.int sn1),y0,(.int (ac y0))] [(.int 1),(.int 0)]
 bif ae .lss sn1 pn1 then gd (aS pd0 sn1)<|gd (ao (NI [ax pd0 sn1]))<|gd (ao y1)<|ge pd0<|ge (.int pn1)<|some (Sum.inl [.int (qmm .gtr sn0 (ah (ab y1 1))),.int (aM .add .i64 sn1 1)])else ge pd0<|ge (.int pn1)<|some (Sum.inr [.int 0,.int sn0]):=by kernel_rfl
def zW:=by have h:= @Ud;simp only[aE,gd,aj,ai,ak,au,ar,aD,ap]at h;exact h
def NL (Q:uAC):List D->uAC:=veil fun p s=>loW (vG Q p) s
theorem Da (Q:uAC):NL Q=fun p s=>loW (vG Q p) s:=am _
def zX (Q:uAC):Tb:=Tb.addL (zV Q) 221 3 S221_3.n0 (bL S221_3 (NL Q))
theorem JI (Q:uAC) (hQ:aH env.P 221 NJ Q):TbOk env (zX Q):=aG (JH Q hQ) 221 3 (by kernel_rfl) _ (Da Q)
def Y2 (Q:uAC):uAC:=aN env (zX Q) 60 12 221 NJ
theorem Fb221_e (Q:uAC) (sd0:D):Y2 Q [sd0] =
 let y0:=NL Q [sd0,(.int (ac sd0))] [(.int 0),(.int 0)]
 gd (ao y0)<|some [.int (ah (ab y0 1))]:=by kernel_rfl
def Y3:=by have h:= @Fb221_e;simp only[aE,gd,aj,ai,ak,au,ar,aD,ap]at h;exact h
def JJ:Nat->uAC:=levels Y2
theorem F221_s (n:Nat):JJ (n+1)=Y2 (JJ n):=rfl
def Y4:uAC:=veil fun ds=>JJ (aW ds) ds
theorem QW:Y4=fun ds=>JJ (aW ds) ds:=am _
theorem Y5:aH env.P 221 NJ Y4:=gj (fun q=>zX q) (fun q hq=>JI q hq) QW
def Y6:Tb:=Tb.addF Y1 221 NJ Y4
theorem JK:TbOk env Y6:=TbOk.addF JG (by kernel_rfl) Y5
def NM:FunS:=⟨[utR 187,utB],[],[utR 278],[]⟩
def NN (Q:uAC):Tb:=Tb.addF Y6 222 NM Q
theorem Ue (Q:uAC) (hQ:aH env.P 222 NM Q):TbOk env (NN Q):=TbOk.addF JK (by kernel_rfl) hQ
def S222_7:LoopS:=⟨0,uF::ufB::uF::uF::ufN::ufO 0 278::uF::ufP 1 0::uF::uF::ufR 187::ufI::ufI::uAA 10 (ufR 36::ufI::utI::uAA 21 []),[(.dat false 187),(.lst true 278)],[⟨0,2,uT::ufB::uT::uT::utN::utO 0 278::uT::uT::uT::uT::ufR 187::ufI::ufI::uAB 10 (ufR 36::ufI::uAB 22 []),[(.dat false 187),(.lst true 278)]⟩]⟩
def vH (Q:uAC) (p s:List D):Option (Sum (List D) (List D)):=aO env (NN Q) 60 12 222 (bc 222 7) S222_7 p s
theorem Uf (Q:uAC) (pb0:Bool) (pd1:D) (pn2:Int) (pn3:Int) (pd4:D) (pn5:Int) (pd6:D) (sn0:Int) (sd1:D):vH Q [(D.bool pb0),pd1,(D.int pn2),(D.int pn3),pd4,(D.int pn5),pd6] [(D.int sn0),sd1] =
 let y0:=ac (bt sd1 (ab (Q [(ax pd4 sn0),(.bool true)]) 0))
 let y1:=ao (Q [(ax pd4 sn0),(.bool (ae .eql (ah (aa pd6 0)) 8))])
 let y2:=ab (Q [(ax pd4 sn0),(.bool (ae .eql (ah (aa pd6 0)) 8))]) 0
 let x0:=Q [ax pd4 sn0,.bool true]
 let x1:=ae .eql (ac sd1) (ac sd1)
 let x2:=D.bool pb0
 let x3:=D.int pn2
 let x4:=D.int pn3
 let x5:=D.int pn5
 let x6:=D.int (aM .add .i64 sn0 1)
 let x7:Option (List D ⊕ List D):=gd (ao x0)<|gd x1<|gd (ci y0 136)<|gd (ae .eql y0 y0)<|ge x2<|ge pd1<|ge x3<|ge x4<|ge pd4<|ge x5<|ge pd6<|some (Sum.inl [x6,bt sd1 (ab x0 0)])
 let x8:=ac (bt sd1 y2)
 bif ae .lss sn0 pn5 then gd (aS pd4 sn0)<|bif pb0 then x7 else bif ae .eql (ah (aa pd6 0)) 7 then x7 else gd y1<|gd x1<|gd (ci x8 136)<|gd (ae .eql x8 x8)<|ge x2<|ge pd1<|ge x3<|ge x4<|ge pd4<|ge x5<|ge pd6<|some (Sum.inl [x6,bt sd1 y2])else gd x1<|ge x2<|ge pd1<|ge x3<|ge x4<|ge pd4<|ge x5<|ge pd6<|some (Sum.inr [.int 0,sd1]):=by kernel_rfl
def zY:=by have h:= @Uf;simp only[aE,gd,aj,ai,ak,au,ar,aD,ap]at h;exact h
def FD (Q:uAC):List D->uAC:=veil fun p s=>loW (vH Q p) s
theorem Db (Q:uAC):FD Q=fun p s=>loW (vH Q p) s:=am _
def zZ (Q:uAC):Tb:=Tb.addL (NN Q) 222 7 S222_7.n0 (bL S222_7 (FD Q))
theorem JL (Q:uAC) (hQ:aH env.P 222 NM Q):TbOk env (zZ Q):=aG (Ue Q hQ) 222 7 (by kernel_rfl) _ (Db Q)
def S222_3:LoopS:=⟨0,uF::ufB::uF::uF::ufN::ufO 0 278::uF::uF::uF::uF::ufR 187::ufI::utI::uAA 34 [],[(.lst true 278)],[⟨0,0,uT::ufB::uT::uT::utN::utO 0 278::uT::uT::uT::uT::ufR 187::ufI::uAB 35 [],[(.lst true 278)]⟩]⟩
def vI (Q:uAC) (p s:List D):Option (Sum (List D) (List D)):=aO env (zZ Q) 60 12 222 (bc 222 3) S222_3 p s
theorem Ug (Q:uAC) (pb0:Bool) (pd1:D) (pn2:Int) (sn0:Int) (sd1:D):vI Q [(D.bool pb0),pd1,(D.int pn2)] [(D.int sn0),sd1] =
 let y0:=bt sd1 (.list [(.agg [(.agg [(.int (ah (aa (ax pd1 sn0) 0))),(.int (ah (aa (ax pd1 sn0) 1))),(.str (aC (aa (ax pd1 sn0) 2))),(aa (ax pd1 sn0) 3),(aa (ax pd1 sn0) 4),(aa (ax pd1 sn0) 5),(aa (ax pd1 sn0) 6)]),(.bool pb0)])])
 let y1:=ab (NI [(ax pd1 sn0)]) 0
 let y2:=FD Q [(.bool pb0),pd1,(.int pn2),(.int sn0),y1,(.int (ac y1)),(ax pd1 sn0)] [(.int 0),y0]
 let x0:=ae .eql (ac sd1) (ac sd1)
 let x1:=ac y0
 bif ae .lss sn0 pn2 then gd (aS pd1 sn0)<|gd x0<|gd (ci x1 136)<|gd (ao (NI [ax pd1 sn0]))<|gd (ae .eql x1 x1)<|gd (ao y2)<|gd (ae .eql (ac (ab y2 1)) (ac (ab y2 1)))<|ge (.bool pb0)<|ge pd1<|ge (.int pn2)<|some (Sum.inl [.int (aM .add .i64 sn0 1),ab y2 1])else gd x0<|ge (.bool pb0)<|ge pd1<|ge (.int pn2)<|some (Sum.inr [.int 0,sd1]):=by kernel_rfl
def z0:=by have h:= @Ug;simp only[aE,gd,aj,ai,ak,au,ar,aD,ap]at h;exact h
def NO (Q:uAC):List D->uAC:=veil fun p s=>loW (vI Q p) s
theorem Dc (Q:uAC):NO Q=fun p s=>loW (vI Q p) s:=am _
def z6 (Q:uAC):Tb:=Tb.addL (zZ Q) 222 3 S222_3.n0 (bL S222_3 (NO Q))
theorem JM (Q:uAC) (hQ:aH env.P 222 NM Q):TbOk env (z6 Q):=aG (JL Q hQ) 222 3 (by kernel_rfl) _ (Dc Q)
def Y7 (Q:uAC):uAC:=aN env (z6 Q) 60 12 222 NM
theorem Fb222_e (Q:uAC) (sd0:D) (sb1:Bool):Y7 Q [sd0,(D.bool sb1)] =
 let y0:=NO Q [(.bool sb1),sd0,(.int (ac sd0))] [(.int 0),(.list [])]
 gd (ae .eql 0 (ac (.list [])))<|gd (ao y0)<|gd (ae .eql (ac (ab y0 1)) (ac (ab y0 1)))<|some [ab y0 1]:=by kernel_rfl
def Y8:=by have h:= @Fb222_e;simp only[aE,gd,aj,ai,ak,au,ar,aD,ap]at h;exact h
def JN:Nat->uAC:=levels Y7
theorem F222_s (n:Nat):JN (n+1)=Y7 (JN n):=rfl
def q222:uAC:=veil fun ds=>JN (aW ds) ds
theorem QX:q222=fun ds=>JN (aW ds) ds:=am _
theorem Y9:aH env.P 222 NM q222:=gj (fun q=>z6 q) (fun q hq=>JM q hq) QX
def Za:Tb:=Tb.addF Y6 222 NM q222
theorem Zb:TbOk env Za:=TbOk.addF JK (by kernel_rfl) Y9
def JO:FunS:=⟨[utD 162,utS (.edat 162)],[],[utB],[]⟩
def z7:uAC:=aN env Za 60 12 220 JO
theorem JP (sd0:D) (sd1:D):z7 [sd0,sd1] =
 some [(D.bool (cD BinOp.eql (aC (aa sd0 0)) (aC (aa sd1 0))))]:=by kernel_rfl
def qh:uAC:=veil (z7)
theorem ua:qh=z7:=am _
def sf:Tb:=Tb.addF Za 220 JO (qh)
theorem FE:TbOk env (sf):=aI Zb 220 (by kernel_rfl) _ (ua)
def S204_220_2:LoopS:=⟨0,ufR 162::ufS (.func 220 [] [(.edat 162)])::uF::uF::ufZ::uF::uF::ufI::utI::uAA 10 [],[],[⟨0,0,ufR 162::ufS (.func 220 [] [(.edat 162)])::uT::uT::utZ::uT::uT::ufI::uAB 11 [],[]⟩,⟨1,0,ufR 162::ufS (.func 220 [] [(.edat 162)])::uT::uT::utI::uT::uT::ufI::uAB 11 [],[]⟩]⟩
def jy (p s:List D):Option (Sum (List D) (List D)):=aO env sf 60 12 204 (bc 204 2) S204_220_2 p s
theorem BV (pd0:D) (pd1:D) (pn2:Int) (sn0:Int):jy [pd0,pd1,(D.int pn2)] [(D.int sn0)] =
 let y0:=qh [(ax pd0 sn0),pd1]
 let x0:=D.int pn2
 bif ae .lss sn0 pn2 then gd (aS pd0 sn0)<|gd (ao y0)<|bif aT (ab y0 0)then ge pd0<|ge pd1<|ge x0<|some (Sum.inr [.int 1,.int sn0])else ge pd0<|ge pd1<|ge x0<|some (Sum.inl [.int (aM .add .i64 sn0 1)])else ge pd0<|ge pd1<|ge x0<|some (Sum.inr [.int 0]):=by kernel_rfl
def z8:=by have h:= @BV;simp only[aE,gd,aj,ai,ak,au,ar,aD,ap]at h;exact h
def oH:List D->uAC:=veil fun p s=>loW (jy p) s
theorem nR:oH=fun p s=>loW (jy p) s:=am _
def lA:Tb:=Tb.addL sf 204 2 S204_220_2.n0 (bL S204_220_2 (oH))
theorem uL:TbOk env (lA):=aG FE 204 2 (by kernel_rfl) _ (nR)
def JQ:FunS:=⟨[utR 162,utS (.func 220 [] [(.edat 162)])],[],[utI],[]⟩
def Aa:uAC:=aN env lA 60 12 204 JQ
theorem NP (sd0:D) (sd1:D):Aa [sd0,sd1] =
 let y0:=oH [sd0,sd1,(.int (ac sd0))] [(.int 0)]
 gd (ao y0)<|bif ae .eql (ah (ab y0 0)) 0 then some [.int (-1)]else some [.int (ah (ab y0 1))]:=by kernel_rfl
def JR:=by have h:= @NP;simp only[aE,gd,aj,ai,ak,au,ar,aD,ap]at h;exact h
def qi:uAC:=veil (Aa)
theorem uc:qi=Aa:=am _
def si:Tb:=Tb.addF lA 204 JQ (qi)
theorem FF:TbOk env (si):=aI uL 204 (by kernel_rfl) _ (uc)
def JS:FunS:=⟨[utR 162,utS (.func 220 [] [(.edat 162)])],[],[utB],[]⟩
def Ab:uAC:=aN env si 60 12 145 JS
theorem NQ (sd0:D) (sd1:D):Ab [sd0,sd1] =
 let y0:=ah (ab (qi [sd0,sd1]) 0)
 gd (ao (qi [sd0,sd1]))<|some [.bool (ae .geq y0 0)]:=by kernel_rfl
def JT:=by have h:= @NQ;simp only[aE,gd,aj,ai,ak,au,ar,aD,ap]at h;exact h
def qj:uAC:=veil (Ab)
theorem ud:qj=Ab:=am _
def sj:Tb:=Tb.addF si 145 JS (qj)
theorem FG:TbOk env (sj):=aI FF 145 (by kernel_rfl) _ (ud)
def S169_2:LoopS:=⟨0,ufR 162::uF::ufZ::uF::uF::ufR 162::ufI::utI::uAA 21 [],[],[⟨0,0,ufR 162::uT::utZ::uT::uT::ufR 162::ufI::uAB 22 [],[]⟩,⟨1,0,ufR 162::uT::utI::uT::uT::ufR 162::ufI::uAB 22 [],[]⟩]⟩
def vJ (p s:List D):Option (Sum (List D) (List D)):=aO env sj 60 12 169 (bc 169 2) S169_2 p s
theorem Uh (pd0:D) (pd1:D) (pn2:Int) (sn0:Int):vJ [pd0,pd1,(D.int pn2)] [(D.int sn0)] =
 let y0:=BO [(.str (aC (aa (ax pd1 sn0) 0)))]
 let y1:=qj [(dA pd0 0 sn0),(ax pd1 sn0)]
 let x0:=D.int pn2
 let x1:=D.int 1
 bif ae .lss sn0 pn2 then gd (aS pd1 sn0)<|gd (ao y0)<|bif b8 (aT (ab y0 0))then ge pd0<|ge pd1<|ge x0<|some (Sum.inr [x1,.int 3])else gd (ae .leq 0 0)<|gd (ae .leq 0 sn0)<|gd (ae .leq sn0 (ac pd0))<|gd (ao y1)<|bif aT (ab y1 0)then ge pd0<|ge pd1<|ge x0<|some (Sum.inr [x1,.int 8])else bif ae .gtr (ac (aa (ax pd1 sn0) 2)) 65536 then ge pd0<|ge pd1<|ge x0<|some (Sum.inr [x1,.int 6])else ge pd0<|ge pd1<|ge x0<|some (Sum.inl [.int (aM .add .i64 sn0 1)])else ge pd0<|ge pd1<|ge x0<|some (Sum.inr [.int 0]):=by kernel_rfl
def Ac:=by have h:= @Uh;simp only[aE,gd,aj,ai,ak,au,ar,aD,ap]at h;exact h
def NR:List D->uAC:=veil fun p s=>loW (vJ p) s
theorem Dd:NR=fun p s=>loW (vJ p) s:=am _
def Ad:Tb:=Tb.addL sj 169 2 S169_2.n0 (bL S169_2 (NR))
theorem JU:TbOk env (Ad):=aG FG 169 2 (by kernel_rfl) _ (Dd)
def S169:FunS:=⟨[utR 162],[],[utI],[]⟩
def F169:uAC:=aN env Ad 60 12 169 S169
theorem F169_e (sd0:D):F169 [sd0] =
 let y0:=NR [sd0,sd0,(.int (ac sd0))] [(.int 0)]
 gd (ao y0)<|bif ae .eql (ah (ab y0 0)) 0 then some [.int 0]else some [.int (ah (ab y0 1))]:=by kernel_rfl
def F169_eq:=by have h:= @F169_e;simp only[aE,gd,aj,ai,ak,au,ar,aD,ap]at h;exact h
def Zc:uAC:=veil (F169)
theorem QY:Zc=F169:=am _
def Zd:Tb:=Tb.addF Ad 169 S169 (Zc)
theorem Ze:TbOk env (Zd):=aI JU 169 (by kernel_rfl) _ (QY)
def S241:FunS:=⟨[utN,utI],[],[utS (.oslc 0 65)],[(.lst true 65)]⟩
def F241:uAC:=aN env Zd 60 12 241 S241
theorem F241_e (sn0:Int):F241 [(D.int sn0)] =
 let y0:=LA (aM .sub .i64 sn0 0) (.agg [(.str (ByteArray.mk #[])),(.agg [(.int 0),(.int 0),(.int 0),(.list []),(.list [])])])
 let x0:=aM .sub .i64 sn0 0
 bif ae .lss sn0 0 then none else bif ae .gtr x0 0 then gd (ae .lss 0 x0)<|gd (ci x0 88)<|gd (ae .leq 0 0)<|gd (ae .leq 0 x0)<|gd (ae .eql 0 (ac (dA y0 0 0)))<|some [dA y0 0 0]else gd (ae .eql 0 (ac (.list [])))<|some [.list []]:=by kernel_rfl
def F241_eq:=by have h:= @F241_e;simp only[aE,gd,aj,ai,ak,au,ar,aD,ap]at h;exact h
def q241:uAC:=veil (F241)
theorem QZ:q241=F241:=am _
def Zf:Tb:=Tb.addF Zd 241 S241 (q241)
theorem Zg:TbOk env (Zf):=aI Ze 241 (by kernel_rfl) _ (QZ)
def S223_3:LoopS:=⟨0,ufR 35::uF::ufN::utI::uAA 5 (ufR 35::ufI::utI::uAA 24 []),[],[⟨0,0,ufR 35::uT::utN::utI::uAB 5 (ufR 35::ufI::uAB 25 []),[]⟩]⟩
def vK (p s:List D):Option (Sum (List D) (List D)):=aO env Zf 60 12 223 (bc 223 3) S223_3 p s
theorem Ui (pd0:D) (pd1:D) (pn2:Int) (sn0:Int) (sn1:Int):vK [pd0,pd1,(D.int pn2)] [(D.int sn0),(D.int sn1)] =
 let y0:=ae .lss (aM .add .i64 sn0 (ac (ax pd1 sn1))) 0
 bif ae .lss sn1 pn2 then gd (aS pd1 sn1)<|bif y0 then none else ge pd0<|ge pd1<|ge (.int pn2)<|some (Sum.inl [.int (aM .add .i64 sn0 (ac (ax pd1 sn1))),.int (aM .add .i64 sn1 1)])else ge pd0<|ge pd1<|ge (.int pn2)<|some (Sum.inr [.int 0,.int sn0]):=by kernel_rfl
def oI:=by have h:= @Ui;simp only[aE,gd,aj,ai,ak,au,ar,aD,ap]at h;exact h
def NS:List D->uAC:=veil fun p s=>loW (vK p) s
theorem De:NS=fun p s=>loW (vK p) s:=am _
def Ae:Tb:=Tb.addL Zf 223 3 S223_3.n0 (bL S223_3 (NS))
theorem JV:TbOk env (Ae):=aG Zg 223 3 (by kernel_rfl) _ (De)
def S223_11:LoopS:=⟨0,uF::uF::ufN::uF::uF::uF::ufO 0 65::uAA 18 (ufR 35::ufI::utI::uAA 8 []),[(.lst true 65)],[⟨0,2,uT::uT::utN::uT::uT::uT::utO 0 65::uAB 18 (ufR 35::ufI::uAB 9 []),[(.lst true 65)]⟩]⟩
def qk (p s:List D):Option (Sum (List D) (List D)):=aO env Ae 60 12 223 (bc 223 11) S223_11 p s
theorem NT (pd0:D) (pn1:Int) (sn0:Int) (sd1:D):qk [pd0,(D.int pn1)] [(D.int sn0),sd1] =
 let y0:=ae .eql (ac (bt sd1 (ax pd0 sn0))) (ac (bt sd1 (ax pd0 sn0)))
 let x0:=ae .eql (ac sd1) (ac sd1)
 let x1:=bt sd1 (ax pd0 sn0)
 bif ae .lss sn0 pn1 then gd (aS pd0 sn0)<|gd x0<|gd (ci (ac x1) 88)<|gd y0<|ge pd0<|ge (.int pn1)<|some (Sum.inl [.int (aM .add .i64 sn0 1),x1])else gd x0<|ge pd0<|ge (.int pn1)<|some (Sum.inr [.int 0,sd1]):=by kernel_rfl
def mP:=by have h:= @NT;simp only[aE,gd,aj,ai,ak,au,ar,aD,ap]at h;exact h
def FH:List D->uAC:=veil fun p s=>loW (qk p) s
theorem Af:FH=fun p s=>loW (qk p) s:=am _
def sq:Tb:=Tb.addL Ae 223 11 S223_11.n0 (bL S223_11 (FH))
theorem FI:TbOk env (sq):=aG JV 223 11 (by kernel_rfl) _ (Af)
def S223:FunS:=⟨[utR 35],[],[utR 65],[]⟩
def F223:uAC:=aN env sq 60 12 223 S223
theorem F223_e (sd0:D):F223 [sd0] =
 let y0:=NS [sd0,sd0,(.int (ac sd0))] [(.int 0),(.int 0)]
 let y1:=q241 [(.int (ah (ab y0 1)))]
 let y2:=FH [sd0,(.int (ac sd0))] [(.int 0),(ab y1 0)]
 let x0:=ac (ab y1 0)
 gd (ao y0)<|gd (ao y1)<|gd (ae .eql x0 x0)<|gd (ao y2)<|gd (ae .eql (ac (ab y2 1)) (ac (ab y2 1)))<|some [ab y2 1]:=by kernel_rfl
def F223_eq:=by have h:= @F223_e;simp only[aE,gd,aj,ai,ak,au,ar,aD,ap]at h;exact h
def q223:uAC:=veil (F223)
theorem Q0:q223=F223:=am _
def Zh:Tb:=Tb.addF sq 223 S223 (q223)
theorem Zi:TbOk env (Zh):=aI FI 223 (by kernel_rfl) _ (Q0)
def JW:FunS:=⟨[utD 25],[],[utB],[]⟩
def Ah:uAC:=aN env Zh 60 12 242 JW
theorem NU (sd0:D):Ah [sd0] =
 let y0:=ab (q85 [sd0,(.int 64)]) 0
 gd (ao (q85 [sd0,.int 64]))<|some [.bool (b8 (aT y0))]:=by kernel_rfl
def JX:=by have h:= @NU;simp only[aE,gd,aj,ai,ak,au,ar,aD,ap]at h;exact h
def mR:uAC:=veil (Ah)
theorem ue:mR=Ah:=am _
def sr:Tb:=Tb.addF Zh 242 JW (mR)
theorem FJ:TbOk env (sr):=aI Zi 242 (by kernel_rfl) _ (ue)
def S201_242_2:LoopS:=⟨0,ufR 25::ufS (.func 242 [] [])::uF::uF::ufZ::uF::uF::ufI::utI::uAA 10 [],[],[⟨0,0,ufR 25::uT::uT::uT::utZ::uT::uT::ufI::uAB 11 [],[]⟩,⟨1,0,ufR 25::uT::uT::uT::utI::uT::uT::ufI::uAB 11 [],[]⟩]⟩
def jz (p s:List D):Option (Sum (List D) (List D)):=aO env sr 60 12 201 (bc 201 2) S201_242_2 p s
theorem BW (pd0:D) (pn1:Int) (sn0:Int):jz [pd0,(D.int pn1)] [(D.int sn0)] =
 let y0:=ao (mR [(ax pd0 sn0)])
 let y1:=ab (mR [(ax pd0 sn0)]) 0
 let x0:=D.int pn1
 bif ae .lss sn0 pn1 then gd (aS pd0 sn0)<|gd y0<|bif aT y1 then ge pd0<|ge x0<|some (Sum.inr [.int 1,.int sn0])else ge pd0<|ge x0<|some (Sum.inl [.int (aM .add .i64 sn0 1)])else ge pd0<|ge x0<|some (Sum.inr [.int 0]):=by kernel_rfl
def Ai:=by have h:= @BW;simp only[aE,gd,aj,ai,ak,au,ar,aD,ap]at h;exact h
def oJ:List D->uAC:=veil fun p s=>loW (jz p) s
theorem nS:oJ=fun p s=>loW (jz p) s:=am _
def lB:Tb:=Tb.addL sr 201 2 S201_242_2.n0 (bL S201_242_2 (oJ))
theorem uM:TbOk env (lB):=aG FJ 201 2 (by kernel_rfl) _ (nS)
def JY:FunS:=⟨[utR 25,utS (.func 242 [] [])],[],[utI],[]⟩
def Aj:uAC:=aN env lB 60 12 201 JY
theorem NV (sd0:D):Aj [sd0] =
 let y0:=oJ [sd0,(.int (ac sd0))] [(.int 0)]
 gd (ao y0)<|bif ae .eql (ah (ab y0 0)) 0 then some [.int (-1)]else some [.int (ah (ab y0 1))]:=by kernel_rfl
def JZ:=by have h:= @NV;simp only[aE,gd,aj,ai,ak,au,ar,aD,ap]at h;exact h
def ql:uAC:=veil (Aj)
theorem uf:ql=Aj:=am _
def sv:Tb:=Tb.addF lB 201 JY (ql)
theorem FK:TbOk env (sv):=aI uM 201 (by kernel_rfl) _ (uf)
def J0:FunS:=⟨[utR 25,utS (.func 242 [] [])],[],[utB],[]⟩
def Ak:uAC:=aN env sv 60 12 137 J0
theorem NW (sd0:D):Ak [sd0] =
 let y0:=ah (ab (ql [sd0]) 0)
 gd (ao (ql [sd0]))<|some [.bool (ae .geq y0 0)]:=by kernel_rfl
def J1:=by have h:= @NW;simp only[aE,gd,aj,ai,ak,au,ar,aD,ap]at h;exact h
def qm:uAC:=veil (Ak)
theorem ug:qm=Ak:=am _
def sw:Tb:=Tb.addF sv 137 J0 (qm)
theorem FL:TbOk env (sw):=aI FK 137 (by kernel_rfl) _ (ug)
def J2:FunS:=⟨[utD 25],[],[utB],[]⟩
def Al:uAC:=aN env sw 60 12 261 J2
theorem NX (sd0:D):Al [sd0] =
 let y0:=b8 (aT (ab (q86 [sd0]) 0))
 gd (ao (q86 [sd0]))<|some [.bool y0]:=by kernel_rfl
def J3:=by have h:= @NX;simp only[aE,gd,aj,ai,ak,au,ar,aD,ap]at h;exact h
def mS:uAC:=veil (Al)
theorem uh:mS=Al:=am _
def sx:Tb:=Tb.addF sw 261 J2 (mS)
theorem FM:TbOk env (sx):=aI FL 261 (by kernel_rfl) _ (uh)
def S201_261_2:LoopS:=⟨0,ufR 25::ufS (.func 261 [] [])::uF::uF::ufZ::uF::uF::ufI::utI::uAA 10 [],[],[⟨0,0,ufR 25::uT::uT::uT::utZ::uT::uT::ufI::uAB 11 [],[]⟩,⟨1,0,ufR 25::uT::uT::uT::utI::uT::uT::ufI::uAB 11 [],[]⟩]⟩
def jA (p s:List D):Option (Sum (List D) (List D)):=aO env sx 60 12 201 (bc 201 2) S201_261_2 p s
theorem BX (pd0:D) (pn1:Int) (sn0:Int):jA [pd0,(D.int pn1)] [(D.int sn0)] =
 let y0:=ao (mS [(ax pd0 sn0)])
 let y1:=ab (mS [(ax pd0 sn0)]) 0
 let x0:=D.int pn1
 bif ae .lss sn0 pn1 then gd (aS pd0 sn0)<|gd y0<|bif aT y1 then ge pd0<|ge x0<|some (Sum.inr [.int 1,.int sn0])else ge pd0<|ge x0<|some (Sum.inl [.int (aM .add .i64 sn0 1)])else ge pd0<|ge x0<|some (Sum.inr [.int 0]):=by kernel_rfl
def Am:=by have h:= @BX;simp only[aE,gd,aj,ai,ak,au,ar,aD,ap]at h;exact h
def oK:List D->uAC:=veil fun p s=>loW (jA p) s
theorem nT:oK=fun p s=>loW (jA p) s:=am _
def lC:Tb:=Tb.addL sx 201 2 S201_261_2.n0 (bL S201_261_2 (oK))
theorem uN:TbOk env (lC):=aG FM 201 2 (by kernel_rfl) _ (nT)
def J4:FunS:=⟨[utR 25,utS (.func 261 [] [])],[],[utI],[]⟩
def An:uAC:=aN env lC 60 12 201 J4
theorem NY (sd0:D):An [sd0] =
 let y0:=oK [sd0,(.int (ac sd0))] [(.int 0)]
 gd (ao y0)<|bif ae .eql (ah (ab y0 0)) 0 then some [.int (-1)]else some [.int (ah (ab y0 1))]:=by kernel_rfl
def J5:=by have h:= @NY;simp only[aE,gd,aj,ai,ak,au,ar,aD,ap]at h;exact h
def qn:uAC:=veil (An)
theorem uj:qn=An:=am _
def sy:Tb:=Tb.addF lC 201 J4 (qn)
theorem FN:TbOk env (sy):=aI uN 201 (by kernel_rfl) _ (uj)
def J6:FunS:=⟨[utR 25,utS (.func 261 [] [])],[],[utB],[]⟩
def Ao:uAC:=aN env sy 60 12 137 J6
theorem NZ (sd0:D):Ao [sd0] =
 let y0:=ah (ab (qn [sd0]) 0)
 gd (ao (qn [sd0]))<|some [.bool (ae .geq y0 0)]:=by kernel_rfl
def J7:=by have h:= @NZ;simp only[aE,gd,aj,ai,ak,au,ar,aD,ap]at h;exact h
def mT:uAC:=veil (Ao)
theorem uk:mT=Ao:=am _
def sA:Tb:=Tb.addF sy 137 J6 (mT)
theorem FO:TbOk env (sA):=aI FN 137 (by kernel_rfl) _ (uk)
def S243:FunS:=⟨[utD 187],[],[utB],[]⟩
def F243:uAC:=aN env sA 60 12 243 S243
theorem F243_e (sd0:D):F243 [sd0] =
 let y0:=BO [(.str (aC (aa sd0 2)))]
 let y1:=az (az (b8 (aT (ab y0 0))) true false) true (ae .neq (ah (aa sd0 1)) 0)
 let y2:=az (ae .gtr (ac (aa sd0 4)) 0) true (ae .gtr (ac (aa sd0 5)) 0)
 let y3:=ao (mT [(aa sd0 3)])
 let y4:=ab (mT [(aa sd0 3)]) 0
 let y5:=az (ae .neq (ah (aa sd0 1)) 1) (ae .neq (ah (aa sd0 1)) 2) false
 let y6:=az (cD .neq (aC (aa sd0 2)) (ByteArray.mk #[])) true (ae .neq (ah (aa sd0 1)) (ah (aa sd0 1)))
 let y7:=az (ae .eql (ah (aa sd0 0)) 12) (ae .eql (ah (aa sd0 0)) 12) (ae .eql (ah (aa sd0 0)) 13)
 let y8:=az (ae .eql (ah (aa sd0 0)) 5) (ae .eql (ah (aa sd0 0)) 5) y7
 let y9:=az (ae .eql (ah (aa sd0 0)) 3) (ae .eql (ah (aa sd0 0)) 3) y8
 let y10:=az (cD .neq (aC (aa sd0 2)) (ByteArray.mk #[])) true (ae .neq (ah (aa sd0 1)) 0)
 let y11:=az (ae .gtr (ac (aa sd0 5)) 0) true (ae .gtr (ac (aa sd0 6)) 0)
 let y12:=az (ae .lss (ac (aa sd0 6)) 1) true (ae .gtr (ac (aa sd0 6)) 64)
 let y13:=az (ae .eql (ah (aa sd0 0)) 14) (ae .eql (ah (aa sd0 0)) 14) (ae .eql (ah (aa sd0 0)) 15)
 let y14:=az (ae .eql (ah (aa sd0 0)) 11) (ae .eql (ah (aa sd0 0)) 11) y13
 let y15:=az (ae .eql (ah (aa sd0 0)) 10) (ae .eql (ah (aa sd0 0)) 10) y14
 let x0:=ah (aa sd0 0)
 let x1:=ac (aa sd0 3)
 let x2:=ae .neq x1 1
 let x3:Option (List D):=some [.bool false]
 let x4:=ae .gtr (ac (aa sd0 6)) 0
 let x5:Option (List D):=gd y3<|some [.bool (b8 (aT y4))]
 let x6:Option (List D):=bif az y2 true x4 then x3 else x5
 let x7:=ae .neq x1 0
 let x8:=az y10 true x2
 let x9:=az y10 true x7
 bif ae .eql x0 1 then gd (ao y0)<|bif az y1 true x2 then x3 else x6 else bif ae .eql x0 2 then bif az y5 (ae .neq (ah (aa sd0 1)) 4) false then x3 else bif az y6 true (ae .neq x1 2)then x3 else x6 else bif y9 then gd (ao y0)<|bif az y1 true x7 then x3 else x6 else bif ae .eql x0 4 then bif x8 then x3 else x6 else bif ae .eql x0 6 then bif x8 then x3 else bif x4 then x3 else x5 else bif ae .eql x0 7 then bif x8 then x3 else bif y11 then x3 else x5 else bif ae .eql x0 8 then bif x9 then x3 else bif y11 then x3 else x5 else bif ae .eql x0 9 then bif y12 then x3 else bif x8 then x3 else bif az y2 true false then x3 else x5 else bif y15 then bif x9 then x3 else x6 else x3:=by kernel_rfl
def F243_eq:=by have h:= @F243_e;simp only[aE,gd,aj,ai,ak,au,ar,aD,ap]at h;exact h
def q243:uAC:=veil (F243)
theorem Q1:q243=F243:=am _
def Zj:Tb:=Tb.addF sA 243 S243 (q243)
theorem Zk:TbOk env (Zj):=aI FO 243 (by kernel_rfl) _ (Q1)
def S244_2:LoopS:=⟨0,ufS (.eptr [(.func 142 [] [(.eptr [(.rows 65)])]),(.rows 9),(.rows 9),(.rows 9)])::uF::uF::ufP 0 0::ufS (.lit (.bool false))::uF::uF::uF::ufR 25::ufI::utI::uAA 41 [],[(.dat false 187)],[⟨0,0,ufS (.eptr [(.func 142 [] [(.eptr [(.rows 65)])]),(.rows 9),(.rows 9),(.rows 9)])::uT::uT::utP 0 0::utS (.lit (.bool false))::uT::uT::uT::ufR 25::ufI::uAB 42 [],[(.dat false 187)]⟩,⟨1,0,ufS (.eptr [(.func 142 [] [(.eptr [(.rows 65)])]),(.rows 9),(.rows 9),(.rows 9)])::uT::uT::uT::utS (.lit (.bool false))::uT::uT::uT::ufR 25::ufI::uAB 42 [],[(.dat false 187)]⟩]⟩
def vL (p s:List D):Option (Sum (List D) (List D)):=aO env Zj 60 12 244 (bc 244 2) S244_2 p s
theorem Uj (pd0:D) (pd1:D) (pd2:D) (pd3:D) (pd4:D) (pn5:Int) (pd6:D) (sn0:Int):vL [pd0,pd1,pd2,pd3,pd4,(D.int pn5),pd6] [(D.int sn0)] =
 let y0:=ao (q87 [(ax pd4 sn0),pd0])
 let y1:=ab (q87 [(ax pd4 sn0),pd0]) 0
 let x0:=D.int pn5
 bif ae .lss sn0 pn5 then gd (aS pd4 sn0)<|gd y0<|bif b8 (aT y1)then ge pd0<|ge pd1<|ge pd2<|ge pd3<|ge pd4<|ge x0<|ge pd6<|some (Sum.inr [.int 1])else ge pd0<|ge pd1<|ge pd2<|ge pd3<|ge pd4<|ge x0<|ge pd6<|some (Sum.inl [.int (aM .add .i64 sn0 1)])else ge pd0<|ge pd1<|ge pd2<|ge pd3<|ge pd4<|ge x0<|ge pd6<|some (Sum.inr [.int 0]):=by kernel_rfl
def N0:=by have h:= @Uj;simp only[aE,gd,aj,ai,ak,au,ar,aD,ap]at h;exact h
def N1:List D->uAC:=veil fun p s=>loW (vL p) s
theorem Df:N1=fun p s=>loW (vL p) s:=am _
def Ap:Tb:=Tb.addL Zj 244 2 S244_2.n0 (bL S244_2 (N1))
theorem J8:TbOk env (Ap):=aG Zk 244 2 (by kernel_rfl) _ (Df)
def S244:FunS:=⟨[utS (.eptr [(.func 142 [] [(.eptr [(.rows 65)])]),(.rows 9),(.rows 9),(.rows 9)]),utD 187],[],[utB],[]⟩
def F244:uAC:=aN env Ap 60 12 244 S244
theorem F244_e (sd0:D) (sd1:D) (sd2:D) (sd3:D) (sd4:D):F244 [sd0,sd1,sd2,sd3,sd4] =
 let y0:=N1 [sd0,sd1,sd2,sd3,(aa sd4 3),(.int (ac (aa sd4 3))),sd4] [(.int 0)]
 let y1:=az (ae .eql (ah (aa sd4 0)) 1) (ae .eql (ah (aa sd4 0)) 1) (ae .eql (ah (aa sd4 0)) 3)
 let y2:=Tv [(.str (aC (aa sd4 2))),sd0]
 let y3:=JE [sd1,(.str (aC (aa sd4 2)))]
 let y4:=JE [sd2,(.str (aC (aa sd4 2)))]
 let x0:=ah (aa sd4 0)
 gd (ao y0)<|bif ae .eql (ah (ab y0 0)) 0 then bif y1 then gd (ao y2)<|some [.bool (aT (ab y2 0))]else bif ae .eql x0 5 then gd (ao y3)<|some [.bool (aT (ab y3 0))]else bif ae .eql x0 12 then gd (ao y4)<|some [.bool (aT (ab y4 0))]else some [.bool true]else some [.bool false]:=by kernel_rfl
def F244_eq:=by have h:= @F244_e;simp only[aE,gd,aj,ai,ak,au,ar,aD,ap]at h;exact h
def q244:uAC:=veil (F244)
theorem Q2:q244=F244:=am _
def Zl:Tb:=Tb.addF Ap 244 S244 (q244)
theorem Zm:TbOk env (Zl):=aI J8 244 (by kernel_rfl) _ (Q2)
def S224:FunS:=⟨[utP 0 0,utD 278],[(.lst true 9),(.lst false 9),(.cells [ufS (.func 142 [] [(.eptr [(.rows 65)])]),ufR 9,ufO 1 9,ufO 2 9])],[utI],[(.lst true 9), .skip,(.lst false 9),(.cells [ufS (.func 142 [] [(.eptr [(.rows 65)])]),ufR 9,utO 1 9,utO 3 9])]⟩
def F224:uAC:=aN env Zl 60 12 224 S224
theorem F224_e (pd0:D) (pd1:D) (pd2:D) (sd0:D) (sd1:D):F224 [pd0,pd1,pd2,sd0,sd1] =
 let y0:=qm [(aa (aa sd0 0) 3)]
 let y1:=q243 [(.agg [(.int (ah (aa (aa sd0 0) 0))),(.int (ah (aa (aa sd0 0) 1))),(.str (aC (aa (aa sd0 0) 2))),(aa (aa sd0 0) 3),(aa (aa sd0 0) 4),(aa (aa sd0 0) 5),(aa (aa sd0 0) 6)])]
 let y2:=q244 [pd1,pd2,pd0,sd1,(.agg [(.int (ah (aa (aa sd0 0) 0))),(.int (ah (aa (aa sd0 0) 1))),(.str (aC (aa (aa sd0 0) 2))),(aa (aa sd0 0) 3),(aa (aa sd0 0) 4),(aa (aa sd0 0) 5),(aa (aa sd0 0) 6)])]
 let y3:=az (ae .eql (ah (aa (aa sd0 0) 0)) 10) true (ae .eql (ah (aa (aa sd0 0) 0)) 11)
 let y4:=JE [sd1,(.str (aC (aa (aa sd0 0) 2)))]
 let y5:=ac (bt sd1 (.list [(.str (aC (aa (aa sd0 0) 2)))]))
 let x0:=ae .eql (ac pd0) (ac pd0)
 let x1:=ae .eql (ac sd1) (ac sd1)
 gd (ao y0)<|bif aT (ab y0 0)then gd x0<|gd x1<|ge pd0<|ge pd1<|ge pd2<|some [.int 20,sd1]else gd (ao y1)<|bif b8 (aT (ab y1 0))then gd x0<|gd x1<|ge pd0<|ge pd1<|ge pd2<|some [.int 2,sd1]else gd x0<|gd x1<|gd (ao y2)<|bif b8 (aT (ab y2 0))then gd x0<|gd x1<|ge pd0<|ge pd1<|ge pd2<|some [.int 17,sd1]else bif az y3 (b8 (aT (aa sd0 1))) false then gd x0<|gd x1<|ge pd0<|ge pd1<|ge pd2<|some [.int 21,sd1]else bif ae .eql (ah (aa (aa sd0 0) 0)) 13 then gd x1<|gd (ao y4)<|bif aT (ab y4 0)then gd x0<|gd x1<|ge pd0<|ge pd1<|ge pd2<|some [.int 8,sd1]else gd x1<|gd (ci y5 16)<|gd x0<|gd (ae .eql y5 y5)<|ge pd0<|ge pd1<|ge pd2<|some [.int 0,bt sd1 (.list [.str (aC (aa (aa sd0 0) 2))])]else gd x0<|gd x1<|ge pd0<|ge pd1<|ge pd2<|some [.int 0,sd1]:=by kernel_rfl
def F224_eq:=by have h:= @F224_e;simp only[aE,gd,aj,ai,ak,au,ar,aD,ap]at h;exact h
def q224:uAC:=veil (F224)
theorem Q3:q224=F224:=am _
def Zn:Tb:=Tb.addF Zl 224 S224 (q224)
theorem Zo:TbOk env (Zn):=aI Zm 224 (by kernel_rfl) _ (Q3)
def S170_13:LoopS:=⟨0,uAA 6 (ufZ::uF::ufR 278::ufP 0 0::uAA 41 (ufR 278::ufI::utI::uAA 33 [])),[(.lst true 9),(.cells [ufS (.func 142 [] [(.eptr [(.rows 65)])]),ufR 9,ufO 1 9,ufN])],[⟨0,0,uAB 6 (utZ::uT::ufR 278::utP 0 0::uAB 41 (ufR 278::ufI::uAB 34 [])),[(.lst true 9),(.cells [ufS (.func 142 [] [(.eptr [(.rows 65)])]),ufR 9,utO 1 9,utN])]⟩]⟩
def qo (p s:List D):Option (Sum (List D) (List D)):=aO env Zn 60 12 170 (bc 170 13) S170_13 p s
theorem N2 (pd0:D) (pd1:D) (pn2:Int) (pd3:D) (pd4:D) (sn0:Int) (sd1:D):qo [pd0,pd1,(D.int pn2),pd3,pd4] [(D.int sn0),sd1] =
 let y0:=bt sd1 (.list [(.str (aC (aa (aa (ax pd1 sn0) 0) 2)))])
 let x0:=ae .eql (ac sd1) (ac sd1)
 let x1:=ac y0
 let x2:=D.int pn2
 let x3:=D.int (aM .add .i64 sn0 1)
 bif ae .lss sn0 pn2 then gd (aS pd1 sn0)<|bif ae .eql (ah (aa (aa (ax pd1 sn0) 0) 0)) 13 then gd x0<|gd (ci x1 16)<|gd (ae .eql x1 x1)<|ge pd0<|ge pd1<|ge x2<|ge pd3<|ge pd4<|some (Sum.inl [x3,y0])else gd x0<|ge pd0<|ge pd1<|ge x2<|ge pd3<|ge pd4<|some (Sum.inl [x3,sd1])else gd x0<|ge pd0<|ge pd1<|ge x2<|ge pd3<|ge pd4<|some (Sum.inr [.int 0,sd1]):=by kernel_rfl
def um:=by have h:= @N2;simp only[aE,gd,aj,ai,ak,au,ar,aD,ap]at h;exact h
def FP:List D->uAC:=veil fun p s=>loW (qo p) s
theorem Aq:FP=fun p s=>loW (qo p) s:=am _
def sB:Tb:=Tb.addL Zn 170 13 S170_13.n0 (bL S170_13 (FP))
theorem FQ:TbOk env (sB):=aG Zo 170 13 (by kernel_rfl) _ (Aq)
def S170_19:LoopS:=⟨0,uAA 6 (ufZ::uF::uF::ufP 0 0::uAA 64 (ufR 278::ufI::utI::uAA 10 [])),[(.lst true 9),(.lst false 9),(.cells [ufS (.func 142 [] [(.eptr [(.rows 65)])]),ufR 9,ufO 1 9,ufO 2 9])],[⟨0,2,uAB 6 (utZ::uAB 67 (ufR 278::ufI::uAB 11 [])),[.skip,(.lst false 9),(.cells [ufS (.func 142 [] [(.eptr [(.rows 65)])]),ufR 9,uT,uT])]⟩,⟨1,0,uAB 6 (utI::uAB 67 (ufR 278::ufI::uAB 11 [])),[.skip,(.lst false 9),(.cells [ufS (.func 142 [] [(.eptr [(.rows 65)])]),ufR 9,uT,uT])]⟩]⟩
def qp (p s:List D):Option (Sum (List D) (List D)):=aO env sB 60 12 170 (bc 170 19) S170_19 p s
theorem N3 (pd0:D) (pn1:Int) (pd2:D) (pd3:D) (pd4:D) (sn0:Int) (sd1:D):qp [pd0,(D.int pn1),pd2,pd3,pd4] [(D.int sn0),sd1] =
 let y0:=q224 [pd2,pd3,pd4,(ax pd0 sn0),sd1]
 let x0:=ae .eql (ac pd2) (ac pd2)
 let x1:=ah (ab y0 0)
 let x2:=D.int pn1
 bif ae .lss sn0 pn1 then gd (aS pd0 sn0)<|gd x0<|gd (ae .eql (ac sd1) (ac sd1))<|gd (ao y0)<|bif ae .neq x1 0 then ge pd0<|ge x2<|ge pd2<|ge pd3<|ge pd4<|some (Sum.inr [.int 1,.int x1])else gd x0<|gd (ae .eql (ac (ab y0 1)) (ac (ab y0 1)))<|ge pd0<|ge x2<|ge pd2<|ge pd3<|ge pd4<|some (Sum.inl [.int (aM .add .i64 sn0 1),ab y0 1])else ge pd0<|ge x2<|ge pd2<|ge pd3<|ge pd4<|some (Sum.inr [.int 0]):=by kernel_rfl
def un:=by have h:= @N3;simp only[aE,gd,aj,ai,ak,au,ar,aD,ap]at h;exact h
def FR:List D->uAC:=veil fun p s=>loW (qp p) s
theorem Ar:FR=fun p s=>loW (qp p) s:=am _
def sC:Tb:=Tb.addL sB 170 19 S170_19.n0 (bL S170_19 (FR))
theorem FS:TbOk env (sC):=aG FQ 170 19 (by kernel_rfl) _ (Ar)
def S170:FunS:=⟨[utD 197,utD 38,utR 9],[],[utI],[]⟩
def F170:uAC:=aN env sC 60 12 170 S170
theorem F170_e (sd0:D) (sd1:D) (sd2:D):F170 [sd0,sd1,sd2] =
 let y0:=aM .add .i64 (ac (aa sd0 0)) (ac (aa sd1 1))
 let y1:=YW [(aa sd0 0),(aa sd1 1)]
 let y2:=ah (ab (Y4 [(aa sd1 2)]) 0)
 let y3:=q222 [(aa sd1 2),(.bool false)]
 let y4:=q223 [(.list [(aa sd0 0),(aa sd1 1)])]
 let y5:=FP [(ab y3 0),(ab y3 0),(.int (ac (ab y3 0))),(ab y4 0),sd2] [(.int 0),(.list [])]
 let y6:=FR [(ab y3 0),(.int (ac (ab y3 0))),(ab y5 1),(ab y4 0),sd2] [(.int 0),(.list [])]
 let x0:Option (List D):=some [.int 6]
 let x1:=ah (ab y1 0)
 let x2:=ae .eql 0 (ac (.list []))
 let x3:=ac (ab y5 1)
 bif ae .gtr y0 256 then x0 else gd (ao y1)<|bif ae .neq x1 0 then some [.int x1]else gd (ao (Y4 [aa sd1 2]))<|bif ae .gtr y2 64 then some [.int 20]else gd (ao y3)<|bif ae .gtr (ac (ab y3 0)) 1024 then x0 else gd (ao y4)<|gd x2<|gd (ao y5)<|gd (ae .eql x3 x3)<|gd x2<|gd (ao y6)<|bif ae .eql (ah (ab y6 0)) 0 then some [.int 0]else some [.int (ah (ab y6 1))]:=by kernel_rfl
def F170_eq:=by have h:= @F170_e;simp only[aE,gd,aj,ai,ak,au,ar,aD,ap]at h;exact h
def Zp:uAC:=veil (F170)
theorem Q4:Zp=F170:=am _
def Zq:Tb:=Tb.addF sC 170 S170 (Zp)
theorem Zr:TbOk env (Zq):=aI FS 170 (by kernel_rfl) _ (Q4)
def S111_13:LoopS:=⟨0,uF::ufP 0 0::ufZ::uF::uF::ufO 1 9::uAA 38 (ufR 38::ufI::utI::uAA 32 []),[(.lst true 9),(.dat false 197)],[⟨0,0,uT::utP 0 0::utZ::uT::uT::utO 1 9::uAB 38 (ufR 38::ufI::uAB 33 []),[(.lst true 9),(.dat false 197)]⟩,⟨1,0,uT::uT::utI::uAB 41 (ufR 38::ufI::uAB 33 []),[.skip,(.dat false 197)]⟩]⟩
def qq (p s:List D):Option (Sum (List D) (List D)):=aO env Zq 60 12 111 (bc 111 13) S111_13 p s
theorem N4 (pd0:D) (pn1:Int) (pd2:D) (sn0:Int) (sd1:D):qq [pd0,(D.int pn1),pd2] [(D.int sn0),sd1] =
 let y0:=BO [(.str (aC (aa (ax pd0 sn0) 0)))]
 let y1:=JE [sd1,(.str (aC (aa (ax pd0 sn0) 0)))]
 let y2:=ac (bt sd1 (.list [(.str (aC (aa (ax pd0 sn0) 0)))]))
 let x0:=D.int pn1
 let x1:=ae .eql (ac sd1) (ac sd1)
 bif ae .lss sn0 pn1 then gd (aS pd0 sn0)<|gd (ao y0)<|bif b8 (aT (ab y0 0))then ge pd0<|ge x0<|ge pd2<|some (Sum.inr [.int 1,.int 3])else gd x1<|gd (ao y1)<|bif aT (ab y1 0)then ge pd0<|ge x0<|ge pd2<|some (Sum.inr [.int 1,.int 8])else gd x1<|gd (ci y2 16)<|gd (ae .eql y2 y2)<|ge pd0<|ge x0<|ge pd2<|some (Sum.inl [.int (aM .add .i64 sn0 1),bt sd1 (.list [.str (aC (aa (ax pd0 sn0) 0))])])else gd x1<|ge pd0<|ge x0<|ge pd2<|some (Sum.inr [.int 0,sd1]):=by kernel_rfl
def uo:=by have h:= @N4;simp only[aE,gd,aj,ai,ak,au,ar,aD,ap]at h;exact h
def FT:List D->uAC:=veil fun p s=>loW (qq p) s
theorem As:FT=fun p s=>loW (qq p) s:=am _
def sD:Tb:=Tb.addL Zq 111 13 S111_13.n0 (bL S111_13 (FT))
theorem FU:TbOk env (sD):=aG Zr 111 13 (by kernel_rfl) _ (As)
def S111_22:LoopS:=⟨0,uF::ufP 0 0::ufZ::uF::uF::ufO 1 9::uAA 59 (ufR 38::ufI::utI::uAA 11 []),[(.lst false 9),(.dat false 197)],[⟨0,2,uT::uT::utZ::uAB 62 (ufR 38::ufI::uAB 12 []),[(.lst false 9),(.dat false 197)]⟩,⟨1,0,uT::uT::utI::uAB 62 (ufR 38::ufI::uAB 12 []),[(.lst false 9),(.dat false 197)]⟩]⟩
def qr (p s:List D):Option (Sum (List D) (List D)):=aO env sD 60 12 111 (bc 111 22) S111_22 p s
theorem N5 (pd0:D) (pn1:Int) (pd2:D) (pd3:D) (sn0:Int):qr [pd0,(D.int pn1),pd2,pd3] [(D.int sn0)] =
 let y0:=Zp [pd3,(ax pd0 sn0),pd2]
 let x0:=ae .eql (ac pd2) (ac pd2)
 let x1:=ah (ab y0 0)
 let x2:=D.int pn1
 bif ae .lss sn0 pn1 then gd (aS pd0 sn0)<|gd x0<|gd (ao y0)<|bif ae .neq x1 0 then ge pd0<|ge x2<|ge pd2<|ge pd3<|some (Sum.inr [.int 1,.int x1])else gd x0<|ge pd0<|ge x2<|ge pd2<|ge pd3<|some (Sum.inl [.int (aM .add .i64 sn0 1)])else ge pd0<|ge x2<|ge pd2<|ge pd3<|some (Sum.inr [.int 0]):=by kernel_rfl
def uq:=by have h:= @N5;simp only[aE,gd,aj,ai,ak,au,ar,aD,ap]at h;exact h
def FV:List D->uAC:=veil fun p s=>loW (qr p) s
theorem At:FV=fun p s=>loW (qr p) s:=am _
def sE:Tb:=Tb.addL sD 111 22 S111_22.n0 (bL S111_22 (FV))
theorem FW:TbOk env (sE):=aG FU 111 22 (by kernel_rfl) _ (At)
def S111:FunS:=⟨[utD 197],[],[utI],[]⟩
def F111:uAC:=aN env sE 60 12 111 S111
theorem F111_e (sd0:D):F111 [sd0] =
 let y0:=az (ae .gtr (ac (aa sd0 0)) 256) true (ae .gtr (ac (aa sd0 1)) 16)
 let y1:=YW [(.list []),(aa sd0 0)]
 let y2:=ah (ab (Zc [(aa sd0 1)]) 0)
 let y3:=FT [(aa sd0 2),(.int (ac (aa sd0 2))),sd0] [(.int 0),(.list [])]
 let y4:=FV [(aa sd0 2),(.int (ac (aa sd0 2))),(ab y3 1),sd0] [(.int 0)]
 let x0:=ac (aa sd0 2)
 let x1:=ah (ab y1 0)
 bif az y0 true (ae .gtr x0 64)then some [.int 6]else bif ae .eql x0 0 then some [.int 17]else gd (ao y1)<|bif ae .neq x1 0 then some [.int x1]else gd (ao (Zc [aa sd0 1]))<|bif ae .neq y2 0 then some [.int y2]else gd (ae .eql 0 (ac (.list [])))<|gd (ao y3)<|bif ae .eql (ah (ab y3 0)) 0 then gd (ae .eql (ac (ab y3 1)) (ac (ab y3 1)))<|gd (ao y4)<|bif ae .eql (ah (ab y4 0)) 0 then some [.int 0]else some [.int (ah (ab y4 1))]else some [.int (ah (ab y3 1))]:=by kernel_rfl
def F111_eq:=by have h:= @F111_e;simp only[aE,gd,aj,ai,ak,au,ar,aD,ap]at h;exact h
def q111:uAC:=veil (F111)
theorem Q5:q111=F111:=am _
def Zs:Tb:=Tb.addF sE 111 S111 (q111)
theorem Zt:TbOk env (Zs):=aI FW 111 (by kernel_rfl) _ (Q5)
def S112:FunS:=⟨[utD 187,utP 0 0,utP 1 0],[(.cells [utI]),(.cells [ufR 9])],[utS (.tup [])],[(.cells [utI]),(.cells [ufR 9])]⟩
def F112:uAC:=aN env Zs 60 12 112 S112
theorem F112_e (pd0:D) (sd0:D) (sn1:Int):F112 [pd0,sd0,(D.int sn1)] =
 let y0:=JE [pd0,(.str (aC (aa sd0 2)))]
 let y1:=az (ae .eql (ah (aa sd0 0)) 5) (ao y0) true
 let y2:=az (ae .eql (ah (aa sd0 0)) 5) (b8 (aT (ab y0 0))) false
 gd y1<|bif y2 then ge pd0<|some [.int 17]else ge pd0<|some [.int sn1]:=by kernel_rfl
def F112_eq:=by have h:= @F112_e;simp only[aE,gd,aj,ai,ak,au,ar,aD,ap]at h;exact h
def q112:uAC:=veil (F112)
theorem Q6:q112=F112:=am _
def Zu:Tb:=Tb.addF Zs 112 S112 (q112)
theorem J9:TbOk env (Zu):=aI Zt 112 (by kernel_rfl) _ (Q6)
def S74:FunS:=⟨[utR 187,utS (.func 112 [] [(.ptr 0 0),(.ptr 1 0)])],[(.cells [utI]),(.cells [ufR 9])],[utS (.tup [])],[(.cells [utI]),(.cells [ufR 9])]⟩
def Zv (Q:uAC):Tb:=Tb.addF Zu 74 S74 Q
theorem Zw (Q:uAC) (hQ:aH env.P 74 S74 Q):TbOk env (Zv Q):=TbOk.addF J9 (by kernel_rfl) hQ
def S74_7:LoopS:=⟨2,uF::ufS (.func 112 [] [(.ptr 0 0),(.ptr 1 0)])::uAA 6 (ufR 187::ufI::ufI::uAA 15 (ufR 36::ufI::utI::uAA 8 [])),[(.cells [utI]),(.cells [ufR 9])],[⟨0,2,uT::utS (.func 112 [] [(.ptr 0 0),(.ptr 1 0)])::uAB 6 (ufR 187::ufI::ufI::uAB 15 (ufR 36::ufI::uAB 9 [])),[(.cells [utI]),(.cells [ufR 9])]⟩]⟩
def FX (Q:uAC) (p s:List D):Option (Sum (List D) (List D)):=aO env (Zv Q) 60 12 74 (bc 74 7) S74_7 p s
theorem Zx (Q:uAC) (pd0:D) (pn1:Int) (pn2:Int) (pd3:D) (pn4:Int) (pd5:D) (sn0:Int) (sn1:Int):FX Q [pd0,(D.int pn1),(D.int pn2),pd3,(D.int pn4),pd5] [(D.int sn0),(D.int sn1)] =
 let x0:=Q [pd5,ax pd3 sn0,.int sn1]
 bif ae .lss sn0 pn4 then gd (aS pd3 sn0)<|gd (ao x0)<|ge pd0<|ge (.int pn1)<|ge (.int pn2)<|ge pd3<|ge (.int pn4)<|ge pd5<|some (Sum.inl [.int (aM .add .i64 sn0 1),.int (ah (ab x0 0))])else ge pd0<|ge (.int pn1)<|ge (.int pn2)<|ge pd3<|ge (.int pn4)<|ge pd5<|some (Sum.inr [.int 0,.int sn1]):=by kernel_rfl
def Dg:=by have h:= @Zx;simp only[aE,gd,aj,ai,ak,au,ar,aD,ap]at h;exact h
def Q7 (Q:uAC):List D->uAC:=veil fun p s=>loW (FX Q p) s
theorem Ka (Q:uAC):Q7 Q=fun p s=>loW (FX Q p) s:=am _
def FY (Q:uAC):Tb:=Tb.addL (Zv Q) 74 7 S74_7.n0 (bL S74_7 (Q7 Q))
theorem N6 (Q:uAC) (hQ:aH env.P 74 S74 Q):TbOk env (FY Q):=aG (Zw Q hQ) 74 7 (by kernel_rfl) _ (Ka Q)
def S74_1:LoopS:=⟨2,uF::ufS (.func 112 [] [(.ptr 0 0),(.ptr 1 0)])::uAA 6 (ufR 187::ufI::utI::uAA 26 []),[(.cells [utI]),(.cells [ufR 9])],[⟨0,0,uAB 8 (ufR 187::ufI::uAB 27 []),[(.cells [utI]),(.cells [ufR 9])]⟩]⟩
def FZ (Q:uAC) (p s:List D):Option (Sum (List D) (List D)):=aO env (FY Q) 60 12 74 (bc 74 1) S74_1 p s
theorem Zy (Q:uAC) (pd0:D) (pn1:Int) (pd2:D) (sn0:Int) (sn1:Int):FZ Q [pd0,(D.int pn1),pd2] [(D.int sn0),(D.int sn1)] =
 let y0:=q112 [pd2,(ax pd0 sn0),(.int sn1)]
 let y1:=ao (Q [pd2,(aa (ax pd0 sn0) 4),(.int (ah (ab y0 0)))])
 let y2:=ab (Q [pd2,(aa (ax pd0 sn0) 4),(.int (ah (ab y0 0)))]) 0
 let y3:=ao (Q [pd2,(aa (ax pd0 sn0) 5),(.int (ah y2))])
 let y4:=ab (Q [pd2,(aa (ax pd0 sn0) 5),(.int (ah y2))]) 0
 let y5:=Q7 Q [pd0,(.int pn1),(.int sn0),(aa (ax pd0 sn0) 6),(.int (ac (aa (ax pd0 sn0) 6))),pd2] [(.int 0),(.int (ah y4))]
 bif ae .lss sn0 pn1 then gd (aS pd0 sn0)<|gd (ao y0)<|gd y1<|gd y3<|gd (ao y5)<|ge pd0<|ge (.int pn1)<|ge pd2<|some (Sum.inl [.int (aM .add .i64 sn0 1),.int (ah (ab y5 1))])else ge pd0<|ge (.int pn1)<|ge pd2<|some (Sum.inr [.int 0,.int sn1]):=by kernel_rfl
def Dh:=by have h:= @Zy;simp only[aE,gd,aj,ai,ak,au,ar,aD,ap]at h;exact h
def Zz (Q:uAC):List D->uAC:=veil fun p s=>loW (FZ Q p) s
theorem Kb (Q:uAC):Zz Q=fun p s=>loW (FZ Q p) s:=am _
def F0 (Q:uAC):Tb:=Tb.addL (FY Q) 74 1 S74_1.n0 (bL S74_1 (Zz Q))
theorem N7 (Q:uAC) (hQ:aH env.P 74 S74 Q):TbOk env (F0 Q):=aG (N6 Q hQ) 74 1 (by kernel_rfl) _ (Kb Q)
def Fb74 (Q:uAC):uAC:=aN env (F0 Q) 60 12 74 S74
theorem Fb74_e (Q:uAC) (pd0:D) (sd0:D) (sn1:Int):Fb74 Q [pd0,sd0,(D.int sn1)] =
 let y0:=Zz Q [sd0,(.int (ac sd0)),pd0] [(.int 0),(.int sn1)]
 gd (ao y0)<|ge pd0<|some [.int (ah (ab y0 1))]:=by kernel_rfl
def Fb74_eq:=by have h:= @Fb74_e;simp only[aE,gd,aj,ai,ak,au,ar,aD,ap]at h;exact h
def F74:Nat->uAC:=levels Fb74
theorem F74_s (n:Nat):F74 (n+1)=Fb74 (F74 n):=rfl
def q74:uAC:=veil fun ds=>F74 (aW ds) ds
theorem ZA:q74=fun ds=>F74 (aW ds) ds:=am _
theorem sound74:aH env.P 74 S74 q74:=gj (fun q=>F0 q) (fun q hq=>N7 q hq) ZA
def tb74:Tb:=Tb.addF Zu 74 S74 q74
theorem ok_tb74:TbOk env tb74:=TbOk.addF J9 (by kernel_rfl) sound74
def S47_3:LoopS:=⟨0,uF::uF::uF::ufP 0 0::uF::ufP 1 0::ufZ::ufP 2 0::uAA 9 (ufR 9::ufI::utI::uAA 25 []),[(.lst true 38),(.cells [ufR 65,ufN,ufO 3 38]),(.cells [ufR 9]),(.dat false 38)],[⟨0,0,uT::uT::uT::utP 0 0::uT::utP 1 0::utZ::utP 2 0::uAB 9 (ufR 9::ufI::uAB 26 []),[(.lst true 38),(.cells [ufR 65,utN,utO 3 38]),(.cells [ufR 9]),(.dat false 38)]⟩]⟩
def Au (p s:List D):Option (Sum (List D) (List D)):=aO env tb74 60 12 47 (bc 47 3) S47_3 p s
theorem ZB (pd0:D) (pn1:Int) (pd2:D) (pd3:D) (pd4:D) (sn0:Int) (sd1:D):Au [pd0,(D.int pn1),pd2,pd3,pd4] [(D.int sn0),sd1] =
 let y0:=bt sd1 (.list [(.agg [(.str (aC (ax pd0 sn0))),(.list []),(.list [])])])
 let x0:=ae .eql (ac sd1) (ac sd1)
 let x1:=ac y0
 let x2:=D.int pn1
 let x3:=D.int (aM .add .i64 sn0 1)
 bif ae .lss sn0 pn1 then gd (aS pd0 sn0)<|bif cD .neq (aC (ax pd0 sn0)) (aC (aa pd4 0))then gd x0<|gd (ci x1 64)<|gd (ae .eql x1 x1)<|ge pd0<|ge x2<|ge pd2<|ge pd3<|ge pd4<|some (Sum.inl [x3,y0])else gd x0<|ge pd0<|ge x2<|ge pd2<|ge pd3<|ge pd4<|some (Sum.inl [x3,sd1])else gd x0<|ge pd0<|ge x2<|ge pd2<|ge pd3<|ge pd4<|some (Sum.inr [.int 0,sd1]):=by kernel_rfl
def Di:=by have h:= @ZB;simp only[aE,gd,aj,ai,ak,au,ar,aD,ap]at h;exact h
def ZC:List D->uAC:=veil fun p s=>loW (Au p) s
theorem Kc:ZC=fun p s=>loW (Au p) s:=am _
def F1:Tb:=Tb.addL tb74 47 3 S47_3.n0 (bL S47_3 (ZC))
theorem N8:TbOk env (F1):=aG ok_tb74 47 3 (by kernel_rfl) _ (Kc)
def S47:FunS:=⟨[utD 38,utR 9,utR 9],[],[utI],[]⟩
def F47:uAC:=aN env F1 60 12 47 S47
theorem F47_e (sd0:D) (sd1:D) (sd2:D):F47 [sd0,sd1,sd2] =
 let y0:=ac (.list [(.agg [(.str (aC (aa sd0 0))),(aa sd0 1),(aa sd0 2)])])
 let y1:=ZC [sd2,(.int (ac sd2)),(ab (q40 [sd1]) 0),sd2,sd0] [(.int 0),(.list [(.agg [(.str (aC (aa sd0 0))),(aa sd0 1),(aa sd0 2)])])]
 let y2:=q111 [(.agg [(ab (q40 [sd1]) 0),(.list []),(ab y1 1)])]
 let y3:=q74 [sd2,(aa sd0 2),(.int 0)]
 let x0:=ac (ab y1 1)
 let x1:=ah (ab y2 0)
 gd (ao (q40 [sd1]))<|gd (ae .eql 1 y0)<|gd (ao y1)<|gd (ae .eql x0 x0)<|gd (ao y2)<|bif ae .neq x1 0 then some [.int x1]else gd (ao y3)<|some [.int (ah (ab y3 0))]:=by kernel_rfl
def F47_eq:=by have h:= @F47_e;simp only[aE,gd,aj,ai,ak,au,ar,aD,ap]at h;exact h
def q47:uAC:=veil (F47)
theorem ZD:q47=F47:=am _
def tb47:Tb:=Tb.addF F1 47 S47 (q47)
theorem ok_tb47:TbOk env (tb47):=aI N8 47 (by kernel_rfl) _ (ZD)
def S122_2:LoopS:=⟨0,ufR 9::⟨false, .str⟩::uF::uF::ufZ::utI::uAA 13 [],[],[⟨0,0,ufR 9::⟨false, .str⟩::uT::uT::utZ::uAB 14 [],[]⟩,⟨1,0,ufR 9::⟨false, .str⟩::uT::uT::utI::uAB 14 [],[]⟩]⟩
def qs (p s:List D):Option (Sum (List D) (List D)):=aO env tb47 60 12 122 (bc 122 2) S122_2 p s
theorem Uk (pd0:D) (ps1:ByteArray) (sn0:Int):qs [pd0,(D.str ps1)] [(D.int sn0)] =
 let x0:=D.str ps1
 bif ae .lss sn0 (ac pd0)then gd (aS pd0 sn0)<|bif cD .eql (aC (ax pd0 sn0)) ps1 then ge pd0<|ge x0<|some (Sum.inr [.int 1,.int sn0])else ge pd0<|ge x0<|some (Sum.inl [.int (aM .add .i64 sn0 1)])else ge pd0<|ge x0<|some (Sum.inr [.int 0]):=by kernel_rfl
def Av:=by have h:= @Uk;simp only[aE,gd,aj,ai,ak,au,ar,aD,ap]at h;exact h
def N9:List D->uAC:=veil fun p s=>loW (qs p) s
theorem Dj:N9=fun p s=>loW (qs p) s:=am _
def Aw:Tb:=Tb.addL tb47 122 2 S122_2.n0 (bL S122_2 (N9))
theorem Kd:TbOk env (Aw):=aG ok_tb47 122 2 (by kernel_rfl) _ (Dj)
def S122:FunS:=⟨[utR 9,⟨true, .str⟩],[],[utI],[]⟩
def F122:uAC:=aN env Aw 60 12 122 S122
theorem F122_e (sd0:D) (ss1:ByteArray):F122 [sd0,(D.str ss1)] =
 let y0:=N9 [sd0,(.str ss1)] [(.int 0)]
 gd (ao y0)<|bif ae .eql (ah (ab y0 0)) 0 then some [.int (-1)]else some [.int (ah (ab y0 1))]:=by kernel_rfl
def F122_eq:=by have h:= @F122_e;simp only[aE,gd,aj,ai,ak,au,ar,aD,ap]at h;exact h
def Ke:uAC:=veil (F122)
theorem Q8:Ke=F122:=am _
def ZE:Tb:=Tb.addF Aw 122 S122 (Ke)
theorem Kf:TbOk env (ZE):=aI Kd 122 (by kernel_rfl) _ (Q8)
def Oa:FunS:=⟨[utR 187,utR 9],[],[utB],[]⟩
def Ob (Q:uAC):Tb:=Tb.addF ZE 121 Oa Q
theorem Ul (Q:uAC) (hQ:aH env.P 121 Oa Q):TbOk env (Ob Q):=TbOk.addF Kf (by kernel_rfl) hQ
def S121_8:LoopS:=⟨0,ufR 187::ufR 9::uF::uF::ufS (.lit (.bool false))::ufI::ufP 0 0::utI::uAA 49 [],[(.dat false 187)],[⟨0,2,ufR 187::ufR 9::uT::uT::utS (.lit (.bool false))::ufI::uAB 51 [],[(.dat false 187)]⟩,⟨1,0,ufR 187::ufR 9::uT::uT::utS (.lit (.bool false))::ufI::uAB 51 [],[(.dat false 187)]⟩]⟩
def vM (Q:uAC) (p s:List D):Option (Sum (List D) (List D)):=aO env (Ob Q) 60 12 121 (bc 121 8) S121_8 p s
theorem Um (Q:uAC) (pd0:D) (pd1:D) (pn2:Int) (pd3:D) (sn0:Int):vM Q [pd0,pd1,(D.int pn2),pd3] [(D.int sn0)] =
 let x0:=aa pd3 6
 let x1:=Q [ax x0 sn0,pd1]
 let x2:=D.int pn2
 bif ae .lss sn0 (ac x0)then gd (aS x0 sn0)<|gd (ao x1)<|bif b8 (aT (ab x1 0))then ge pd0<|ge pd1<|ge x2<|ge pd3<|some (Sum.inr [.int 1])else ge pd0<|ge pd1<|ge x2<|ge pd3<|some (Sum.inl [.int (aM .add .i64 sn0 1)])else ge pd0<|ge pd1<|ge x2<|ge pd3<|some (Sum.inr [.int 0]):=by kernel_rfl
def Oc:=by have h:= @Um;simp only[aE,gd,aj,ai,ak,au,ar,aD,ap]at h;exact h
def Od (Q:uAC):List D->uAC:=veil fun p s=>loW (vM Q p) s
theorem Dk (Q:uAC):Od Q=fun p s=>loW (vM Q p) s:=am _
def Ax (Q:uAC):Tb:=Tb.addL (Ob Q) 121 8 S121_8.n0 (bL S121_8 (Od Q))
theorem Kg (Q:uAC) (hQ:aH env.P 121 Oa Q):TbOk env (Ax Q):=aG (Ul Q hQ) 121 8 (by kernel_rfl) _ (Dk Q)
def S121_2:LoopS:=⟨0,ufR 187::ufR 9::uF::uF::ufS (.lit (.bool false))::utI::uAA 51 [],[],[⟨0,0,ufR 187::ufR 9::uT::uT::utS (.lit (.bool false))::uAB 52 [],[]⟩,⟨1,0,ufR 187::ufR 9::uT::uT::utS (.lit (.bool false))::uAB 52 [],[]⟩]⟩
def vN (Q:uAC) (p s:List D):Option (Sum (List D) (List D)):=aO env (Ax Q) 60 12 121 (bc 121 2) S121_2 p s
theorem Un (Q:uAC) (pd0:D) (pd1:D) (sn0:Int):vN Q [pd0,pd1] [(D.int sn0)] =
 let y0:=Ke [pd1,(.str (aC (aa (ax pd0 sn0) 2)))]
 let y1:=az (ae .eql (ah (aa (ax pd0 sn0) 0)) 5) (ao y0) true
 let y2:=az (ae .eql (ah (aa (ax pd0 sn0) 0)) 5) (ae .lss (ah (ab y0 0)) 0) false
 let y3:=az y2 true (ao (Q [(aa (ax pd0 sn0) 4),pd1]))
 let y4:=az y2 true (b8 (aT (ab (Q [(aa (ax pd0 sn0) 4),pd1]) 0)))
 let y5:=az y4 true (ao (Q [(aa (ax pd0 sn0) 5),pd1]))
 let y6:=az y4 true (b8 (aT (ab (Q [(aa (ax pd0 sn0) 5),pd1]) 0)))
 let y7:=Od Q [pd0,pd1,(.int sn0),(ax pd0 sn0)] [(.int 0)]
 let x0:Option (List D ⊕ List D):=ge pd0<|ge pd1<|some (Sum.inr [.int 1])
 bif ae .lss sn0 (ac pd0)then gd (aS pd0 sn0)<|gd y1<|gd y3<|gd y5<|bif y6 then x0 else gd (ao y7)<|bif ae .eql (ah (ab y7 0)) 0 then ge pd0<|ge pd1<|some (Sum.inl [.int (aM .add .i64 sn0 1)])else x0 else ge pd0<|ge pd1<|some (Sum.inr [.int 0]):=by kernel_rfl
def Ay:=by have h:= @Un;simp only[aE,gd,aj,ai,ak,au,ar,aD,ap]at h;exact h
def Oe (Q:uAC):List D->uAC:=veil fun p s=>loW (vN Q p) s
theorem Dl (Q:uAC):Oe Q=fun p s=>loW (vN Q p) s:=am _
def Az (Q:uAC):Tb:=Tb.addL (Ax Q) 121 2 S121_2.n0 (bL S121_2 (Oe Q))
theorem Kh (Q:uAC) (hQ:aH env.P 121 Oa Q):TbOk env (Az Q):=aG (Kg Q hQ) 121 2 (by kernel_rfl) _ (Dl Q)
def ZF (Q:uAC):uAC:=aN env (Az Q) 60 12 121 Oa
theorem Fb121_e (Q:uAC) (sd0:D) (sd1:D):ZF Q [sd0,sd1] =
 let y0:=Oe Q [sd0,sd1] [(.int 0)]
 gd (ao y0)<|bif ae .eql (ah (ab y0 0)) 0 then some [.bool true]else some [.bool false]:=by kernel_rfl
def ZG:=by have h:= @Fb121_e;simp only[aE,gd,aj,ai,ak,au,ar,aD,ap]at h;exact h
def F2:Nat->uAC:=levels ZF
theorem F121_s (n:Nat):F2 (n+1)=ZF (F2 n):=rfl
def ZH:uAC:=veil fun ds=>F2 (aW ds) ds
theorem Q9:ZH=fun ds=>F2 (aW ds) ds:=am _
theorem ZI:aH env.P 121 Oa ZH:=gj (fun q=>Az q) (fun q hq=>Kh q hq) Q9
def ZJ:Tb:=Tb.addF ZE 121 Oa ZH
theorem ZK:TbOk env ZJ:=TbOk.addF Kf (by kernel_rfl) ZI
def S61_3:LoopS:=⟨0,uF::uF::ufR 9::ufP 0 0::uF::uF::ufZ::ufP 1 0::utI::uAA 41 [],[(.lst true 38),(.cells [ufR 65,ufN,ufO 2 38]),(.dat false 38)],[⟨0,0,uT::uT::ufR 9::utP 0 0::uT::uT::utZ::utP 1 0::uAB 42 [],[(.lst true 38),(.cells [ufR 65,utN,utO 2 38]),(.dat false 38)]⟩]⟩
def AA (p s:List D):Option (Sum (List D) (List D)):=aO env ZJ 60 12 61 (bc 61 3) S61_3 p s
theorem ZL (pd0:D) (pd1:D) (pd2:D) (sn0:Int) (sd1:D):AA [pd0,pd1,pd2] [(D.int sn0),sd1] =
 let y0:=bt sd1 (.list [(.agg [(.str (aC (ax pd0 sn0))),(.list []),(.list [])])])
 let x0:=aS pd0 sn0
 let x1:=ae .eql (ac sd1) (ac sd1)
 let x2:=ac y0
 let x3:=D.int (aM .add .i64 sn0 1)
 bif ae .lss sn0 (ac pd0)then gd x0<|bif cD .neq (aC (ax pd0 sn0)) (aC (aa pd2 0))then gd x0<|gd x1<|gd (ci x2 64)<|gd (ae .eql x2 x2)<|ge pd0<|ge pd1<|ge pd2<|some (Sum.inl [x3,y0])else gd x1<|ge pd0<|ge pd1<|ge pd2<|some (Sum.inl [x3,sd1])else gd x1<|ge pd0<|ge pd1<|ge pd2<|some (Sum.inr [.int 0,sd1]):=by kernel_rfl
def Dm:=by have h:= @ZL;simp only[aE,gd,aj,ai,ak,au,ar,aD,ap]at h;exact h
def ZM:List D->uAC:=veil fun p s=>loW (AA p) s
theorem Ki:ZM=fun p s=>loW (AA p) s:=am _
def F3:Tb:=Tb.addL ZJ 61 3 S61_3.n0 (bL S61_3 (ZM))
theorem Of:TbOk env (F3):=aG ZK 61 3 (by kernel_rfl) _ (Ki)
def S61:FunS:=⟨[utD 38,utR 9,utR 9],[],[utI],[]⟩
def F61:uAC:=aN env F3 60 12 61 S61
theorem F61_e (sd0:D) (sd1:D) (sd2:D):F61 [sd0,sd1,sd2] =
 let y0:=ac (.list [(.agg [(.str (aC (aa sd0 0))),(aa sd0 1),(aa sd0 2)])])
 let y1:=ZM [sd2,(ab (q44 [sd1]) 0),sd0] [(.int 0),(.list [(.agg [(.str (aC (aa sd0 0))),(aa sd0 1),(aa sd0 2)])])]
 let y2:=q120 [(.agg [(ab (q44 [sd1]) 0),(.list []),(ab y1 1)])]
 let y3:=ao (ZH [(aa sd0 2),sd2])
 let y4:=ab (ZH [(aa sd0 2),sd2]) 0
 let y5:=az (ae .eql (ah (ab y2 0)) 0) (b8 (aT y4)) false
 let x0:=ac (ab y1 1)
 let x1:=ah (ab y2 0)
 gd (ao (q44 [sd1]))<|gd (ae .eql 1 y0)<|gd (ao y1)<|gd (ae .eql x0 x0)<|gd (ao y2)<|gd (az (ae .eql x1 0) y3 true)<|bif y5 then some [.int 17]else some [.int x1]:=by kernel_rfl
def F61_eq:=by have h:= @F61_e;simp only[aE,gd,aj,ai,ak,au,ar,aD,ap]at h;exact h
def q61:uAC:=veil (F61)
theorem ZN:q61=F61:=am _
def tb61:Tb:=Tb.addF F3 61 S61 (q61)
theorem Ra:TbOk env (tb61):=aI Of 61 (by kernel_rfl) _ (ZN)
def S115:FunS:=⟨[utP 0 1,utR 106],[(.lst false 106),(.lst false 106),(.mp false 9 106),(.mp false 106 3),(.lst true 106),(.lst false 46),(.cells [ufO 1 46,ufO 2 106,ufS (.map 3),ufS (.map 4),ufI,ufR 9,ufR 9,ufS (.int .u32),ufI,ufO 5 106,ufO 6 106])],[utS (.tup [])],[(.lst true 106),(.lst false 106),(.lst false 106),(.mp false 9 106),(.mp false 106 3), .skip,(.lst false 46),(.cells [utO 1 46,utO 7 106,utS (.map 3),utS (.map 4),ufI,ufR 9,ufR 9,ufS (.int .u32),ufI,utO 5 106,utO 6 106])]⟩
def F115:uAC:=aN env tb61 60 12 115 S115
theorem F115_e (pd0:D) (pd1:D) (pd2:D) (pd3:D) (pd4:D) (pn5:Int) (pd6:D) (pd7:D) (pn8:Int) (pn9:Int) (sd0:D) (sd1:D):F115 [pd0,pd1,pd2,pd3,pd4,(D.int pn5),pd6,pd7,(D.int pn8),(D.int pn9),sd0,sd1] =
 let x0:=bt sd1 sd0
 let x1:=ac x0
 gd (ae .eql (ac sd1) (ac sd1))<|gd (ci x1 8)<|gd (ae .eql (ac pd4) (ac pd4))<|gd (ae .eql x1 x1)<|gd (ae .eql (ac pd1) (ac pd1))<|gd (ae .eql (ac pd0) (ac pd0))<|ge pd0<|ge pd1<|ge pd2<|ge pd3<|ge pd4<|ge (.int pn5)<|ge pd6<|ge pd7<|ge (.int pn8)<|ge (.int pn9)<|some [x0]:=by kernel_rfl
def F115_eq:=by have h:= @F115_e;simp only[aE,gd,aj,ai,ak,au,ar,aD,ap]at h;exact h
def Kj:uAC:=veil (F115)
theorem Rb:Kj=F115:=am _
def ZO:Tb:=Tb.addF tb61 115 S115 (Kj)
theorem ZP:TbOk env (ZO):=aI Ra 115 (by kernel_rfl) _ (Rb)
def S114:FunS:=⟨[utP 0 0,utR 46],[(.lst false 106),(.lst false 106),(.mp false 9 106),(.mp false 106 3),(.lst false 106),(.lst true 46),(.cells [ufO 1 46,ufO 2 106,ufS (.map 3),ufS (.map 4),ufI,ufR 9,ufR 9,ufS (.int .u32),ufI,ufO 5 106,ufO 6 106])],[utS (.tup [])],[(.lst true 46),(.lst false 106),(.lst false 106),(.mp false 9 106),(.mp false 106 3),(.lst false 106), .skip,(.cells [utO 7 46,utO 2 106,utS (.map 3),utS (.map 4),ufI,ufR 9,ufR 9,ufS (.int .u32),ufI,utO 5 106,utO 6 106])]⟩
def F114:uAC:=aN env ZO 60 12 114 S114
theorem F114_e (pd0:D) (pd1:D) (pd2:D) (pd3:D) (pd4:D) (pn5:Int) (pd6:D) (pd7:D) (pn8:Int) (pn9:Int) (sd0:D) (sd1:D):F114 [pd0,pd1,pd2,pd3,pd4,(D.int pn5),pd6,pd7,(D.int pn8),(D.int pn9),sd0,sd1] =
 let x0:=bt sd1 sd0
 let x1:=ac x0
 gd (ae .eql (ac sd1) (ac sd1))<|gd (ci x1 64)<|gd (ae .eql x1 x1)<|gd (ae .eql (ac pd4) (ac pd4))<|gd (ae .eql (ac pd1) (ac pd1))<|gd (ae .eql (ac pd0) (ac pd0))<|ge pd0<|ge pd1<|ge pd2<|ge pd3<|ge pd4<|ge (.int pn5)<|ge pd6<|ge pd7<|ge (.int pn8)<|ge (.int pn9)<|some [x0]:=by kernel_rfl
def F114_eq:=by have h:= @F114_e;simp only[aE,gd,aj,ai,ak,au,ar,aD,ap]at h;exact h
def Uo:uAC:=veil (F114)
theorem Rc:Uo=F114:=am _
def ZQ:Tb:=Tb.addF ZO 114 S114 (Uo)
theorem ZR:TbOk env (ZQ):=aI ZP 114 (by kernel_rfl) _ (Rc)
def S50_1:LoopS:=⟨7,ufP 0 0::uAA 5 (ufR 46::ufI::utI::uAA 15 []),[(.lst true 106),(.lst true 46),(.lst false 106),(.lst false 106),(.mp false 9 106),(.mp false 106 3), .skip, .skip,(.cells [ufO 7 46,ufO 8 106,ufS (.map 3),ufS (.map 4),ufI,ufR 9,ufR 9,ufS (.int .u32),ufI,ufO 5 106,ufO 6 106])],[⟨0,0,uAB 6 (ufR 46::ufI::uAB 16 []),[(.lst true 106),(.lst true 46),(.lst false 106),(.lst false 106),(.mp false 9 106),(.mp false 106 3), .skip, .skip,(.cells [utO 7 46,utO 8 106,utS (.map 3),utS (.map 4),ufI,ufR 9,ufR 9,ufS (.int .u32),ufI,utO 5 106,utO 6 106])]⟩]⟩
def F5 (p s:List D):Option (Sum (List D) (List D)):=aO env ZQ 60 12 50 (bc 50 1) S50_1 p s
theorem ZS (pd0:D) (pn1:Int) (pd2:D) (pd3:D) (pd4:D) (pd5:D) (pn6:Int) (pd7:D) (pd8:D) (pn9:Int) (pn10:Int) (sn0:Int) (sd1:D) (sd2:D):F5 [pd0,(D.int pn1),pd2,pd3,pd4,pd5,(D.int pn6),pd7,pd8,(D.int pn9),(D.int pn10)] [(D.int sn0),sd1,sd2] =
 let y0:=Uo [pd2,pd3,pd4,pd5,sd1,(.int pn6),pd7,pd8,(.int pn9),(.int pn10),(.list [(.agg [(.int (ah (aa (ax pd0 sn0) 0))),(.int (ah (aa (ax pd0 sn0) 1))),(.int (ah (aa (ax pd0 sn0) 2))),(.int (ah (aa (ax pd0 sn0) 3))),(.int (ah (aa (ax pd0 sn0) 4))),(.int (ah (aa (ax pd0 sn0) 5))),(.int (ah (aa (ax pd0 sn0) 6))),(.int (ah (aa (ax pd0 sn0) 7))),(.int (ah (aa (ax pd0 sn0) 8)))])]),sd2]
 let y1:=Kj [pd2,pd3,pd4,pd5,(ab y0 0),(.int pn6),pd7,pd8,(.int pn9),(.int pn10),(.list [(.int (-1))]),sd1]
 let x0:=ae .eql (ac sd2) (ac sd2)
 let x1:=ae .eql (ac sd1) (ac sd1)
 let x2:=ae .eql (ac pd3) (ac pd3)
 let x3:=ae .eql (ac pd2) (ac pd2)
 let x4:=ae .eql (ac (ab y0 0)) (ac (ab y0 0))
 bif ae .lss sn0 pn1 then gd (aS pd0 sn0)<|gd x0<|gd x1<|gd x2<|gd x3<|gd (ao y0)<|gd x4<|gd x1<|gd x2<|gd x3<|gd (ao y1)<|gd x4<|gd (ae .eql (ac (ab y1 0)) (ac (ab y1 0)))<|gd x2<|gd x3<|ge pd0<|ge (.int pn1)<|ge pd2<|ge pd3<|ge pd4<|ge pd5<|ge (.int pn6)<|ge pd7<|ge pd8<|ge (.int pn9)<|ge (.int pn10)<|some (Sum.inl [.int (aM .add .i64 sn0 1),ab y1 0,ab y0 0])else gd x0<|gd x1<|gd x2<|gd x3<|ge pd0<|ge (.int pn1)<|ge pd2<|ge pd3<|ge pd4<|ge pd5<|ge (.int pn6)<|ge pd7<|ge pd8<|ge (.int pn9)<|ge (.int pn10)<|some (Sum.inr [.int 0,sd1,sd2]):=by kernel_rfl
def Dn:=by have h:= @ZS;simp only[aE,gd,aj,ai,ak,au,ar,aD,ap]at h;exact h
def Rd:List D->uAC:=veil fun p s=>loW (F5 p) s
theorem Kk:Rd=fun p s=>loW (F5 p) s:=am _
def F6:Tb:=Tb.addL ZQ 50 1 S50_1.n0 (bL S50_1 (Rd))
theorem Og:TbOk env (F6):=aG ZR 50 1 (by kernel_rfl) _ (Kk)
def S50:FunS:=⟨[utP 0 0,utR 46],[(.lst false 106),(.lst false 106),(.mp false 9 106),(.mp false 106 3),(.lst true 106),(.lst true 46),(.cells [ufO 1 46,ufO 2 106,ufS (.map 3),ufS (.map 4),ufI,ufR 9,ufR 9,ufS (.int .u32),ufI,ufO 5 106,ufO 6 106])],[utS (.tup [])],[(.lst true 106),(.lst true 46),(.lst false 106),(.lst false 106),(.mp false 9 106),(.mp false 106 3), .skip, .skip,(.cells [utO 7 46,utO 8 106,utS (.map 3),utS (.map 4),ufI,ufR 9,ufR 9,ufS (.int .u32),ufI,utO 5 106,utO 6 106])]⟩
def F50:uAC:=aN env F6 60 12 50 S50
theorem F50_e (pd0:D) (pd1:D) (pd2:D) (pd3:D) (pn4:Int) (pd5:D) (pd6:D) (pn7:Int) (pn8:Int) (sd0:D) (sd1:D) (sd2:D):F50 [pd0,pd1,pd2,pd3,(D.int pn4),pd5,pd6,(D.int pn7),(D.int pn8),sd0,sd1,sd2] =
 let y0:=Rd [sd0,(.int (ac sd0)),pd0,pd1,pd2,pd3,(.int pn4),pd5,pd6,(.int pn7),(.int pn8)] [(.int 0),sd1,sd2]
 let x0:=ae .eql (ac pd1) (ac pd1)
 let x1:=ae .eql (ac pd0) (ac pd0)
 gd (ae .eql (ac sd2) (ac sd2))<|gd (ae .eql (ac sd1) (ac sd1))<|gd x0<|gd x1<|gd (ao y0)<|gd (ae .eql (ac (ab y0 2)) (ac (ab y0 2)))<|gd (ae .eql (ac (ab y0 1)) (ac (ab y0 1)))<|gd x0<|gd x1<|ge pd0<|ge pd1<|ge pd2<|ge pd3<|ge (.int pn4)<|ge pd5<|ge pd6<|ge (.int pn7)<|ge (.int pn8)<|some [ab y0 1,ab y0 2]:=by kernel_rfl
def F50_eq:=by have h:= @F50_e;simp only[aE,gd,aj,ai,ak,au,ar,aD,ap]at h;exact h
def q50:uAC:=veil (F50)
theorem ZT:q50=F50:=am _
def tb50:Tb:=Tb.addF F6 50 S50 (q50)
theorem ok_tb50:TbOk env (tb50):=aI Og 50 (by kernel_rfl) _ (ZT)
def S51:FunS:=⟨[utP 0 0,⟨true, .str⟩],[(.lst false 106),(.lst false 106),(.mp false 9 106),(.mp false 106 3),(.lst false 106),(.lst false 46),(.cells [ufO 1 46,ufO 2 106,ufS (.map 3),ufS (.map 4),ufI,ufR 9,ufR 9,ufS (.int .u32),ufI,ufO 5 106,ufO 6 106])],[utD 46],[(.lst false 106),(.lst false 106),(.mp false 9 106),(.mp false 106 3),(.lst false 106),(.lst false 46),(.cells [utO 1 46,utO 2 106,utS (.map 3),utS (.map 4),ufI,ufR 9,ufR 9,ufS (.int .u32),ufI,utO 5 106,utO 6 106])]⟩
def F51:uAC:=aN env tb50 60 12 51 S51
theorem F51_e (pd0:D) (pd1:D) (pd2:D) (pd3:D) (pd4:D) (pd5:D) (pn6:Int) (pd7:D) (pd8:D) (pn9:Int) (pn10:Int) (ss0:ByteArray):F51 [pd0,pd1,pd2,pd3,pd4,pd5,(D.int pn6),pd7,pd8,(D.int pn9),(D.int pn10),(D.str ss0)] =
 let y0:=ao (BU [pd7,(.str ss0)])
 let y1:=ab (BU [pd7,(.str ss0)]) 0
 let y2:=aM .add .u32 pn9 (aM .mul .u32 4 (fz .u32 (ah y1)))
 let x0:=D.int 0
 gd y0<|gd (ae .eql (ac pd5) (ac pd5))<|gd (ae .eql (ac pd4) (ac pd4))<|gd (ae .eql (ac pd1) (ac pd1))<|gd (ae .eql (ac pd0) (ac pd0))<|ge pd0<|ge pd1<|ge pd2<|ge pd3<|ge pd4<|ge pd5<|ge (.int pn6)<|ge pd7<|ge pd8<|ge (.int pn9)<|ge (.int pn10)<|some [.agg [x0,.int y2,.int 5,.int 2,x0,x0,.int 2,x0,x0]]:=by kernel_rfl
def ZU:=by have h:= @F51_e;simp only[aE,gd,aj,ai,ak,au,ar,aD,ap]at h;exact h
def q51:uAC:=veil (F51)
theorem Oh:q51=F51:=am _
def tb51:Tb:=Tb.addF tb50 51 S51 (q51)
theorem ok_tb51:TbOk env (tb51):=aI ok_tb50 51 (by kernel_rfl) _ (Oh)
def S103:FunS:=⟨[utI],[],[utS (.tup [(.int .i64), .bool])],[]⟩
def F103:uAC:=aN env tb51 60 12 103 S103
theorem F103_e (sn0:Int):F103 [(D.int sn0)] =
 let x0:=D.bool true
 bif ae .eql sn0 3 then some [.int 6,x0]else bif ae .eql sn0 4 then some [.int 7,x0]else bif ae .eql sn0 5 then some [.int 11,x0]else bif ae .eql sn0 6 then some [.int 8,x0]else bif ae .eql sn0 7 then some [.int 9,x0]else bif ae .eql sn0 8 then some [.int 10,x0]else bif ae .eql sn0 9 then some [.int 12,x0]else bif ae .eql sn0 10 then some [.int 13,x0]else bif ae .eql sn0 11 then some [.int 14,x0]else some [.int 0,.bool false]:=by kernel_rfl
def F103_eq:=by have h:= @F103_e;simp only[aE,gd,aj,ai,ak,au,ar,aD,ap]at h;exact h
def q103:uAC:=veil (F103)
theorem Re:q103=F103:=am _
def ZV:Tb:=Tb.addF tb51 103 S103 (q103)
theorem ZW:TbOk env (ZV):=aI ok_tb51 103 (by kernel_rfl) _ (Re)
def S104:FunS:=⟨[utI],[],[utI],[]⟩
def F104:uAC:=aN env ZV 60 12 104 S104
theorem F104_eq (sn0:Int):F104 [(D.int sn0)] =
 bif (ae BinOp.eql sn0 12)then
  some [(D.int 1)]
 else
  bif (ae BinOp.eql sn0 13)then
   some [(D.int 2)]
  else
   bif (ae BinOp.eql sn0 14)then
    some [(D.int 3)]
   else
    some [(D.int 7)]:=by kernel_rfl
def q104:uAC:=veil (F104)
theorem Rf:q104=F104:=am _
def ZX:Tb:=Tb.addF ZV 104 S104 (q104)
theorem Kl:TbOk env (ZX):=aI ZW 104 (by kernel_rfl) _ (Rf)
def S42:FunS:=⟨[utP 0 0,utD 25],[(.lst false 106),(.lst false 106),(.mp false 9 106),(.mp false 106 3),(.lst true 106),(.lst true 46),(.cells [ufO 1 46,ufO 2 106,ufS (.map 3),ufS (.map 4),ufI,ufR 9,ufR 9,ufS (.int .u32),ufI,ufO 5 106,ufO 6 106])],[utS (.tup [])],[(.lst true 106),(.lst true 46),(.lst false 106),(.lst false 106),(.mp false 9 106),(.mp false 106 3), .skip, .skip,(.cells [utO 7 46,utO 8 106,utS (.map 3),utS (.map 4),ufI,ufR 9,ufR 9,ufS (.int .u32),ufI,utO 5 106,utO 6 106])]⟩
def ZY (Q:uAC):Tb:=Tb.addF ZX 42 S42 Q
theorem ZZ (Q:uAC) (hQ:aH env.P 42 S42 Q):TbOk env (ZY Q):=TbOk.addF Kl (by kernel_rfl) hQ
def Fb42 (Q:uAC):uAC:=aN env (ZY Q) 60 12 42 S42
theorem Fb42_e (Q:uAC) (pd0:D) (pd1:D) (pd2:D) (pd3:D) (pn4:Int) (pd5:D) (pd6:D) (pn7:Int) (pn8:Int) (sd0:D) (sd1:D) (sd2:D):Fb42 Q [pd0,pd1,pd2,pd3,(D.int pn4),pd5,pd6,(D.int pn7),(D.int pn8),sd0,sd1,sd2] =
 let y0:=q50 [pd0,pd1,pd2,pd3,(.int pn4),pd5,pd6,(.int pn7),(.int pn8),(.list [(.agg [(.int 0),(.int (ah (aa sd0 1))),(.int 5),(.int 2),(.int 0),(.int 0),(.int 0),(.int 0),(.int 0)])]),sd1,sd2]
 let y1:=q51 [pd0,pd1,pd2,pd3,sd1,sd2,(.int pn4),pd5,pd6,(.int pn7),(.int pn8),(.str (aC (aa sd0 2)))]
 let y2:=q50 [pd0,pd1,pd2,pd3,(.int pn4),pd5,pd6,(.int pn7),(.int pn8),(.list [(.agg [(.int (ah (aa (ab y1 0) 0))),(.int (ah (aa (ab y1 0) 1))),(.int (ah (aa (ab y1 0) 2))),(.int (ah (aa (ab y1 0) 3))),(.int (ah (aa (ab y1 0) 4))),(.int (ah (aa (ab y1 0) 5))),(.int (ah (aa (ab y1 0) 6))),(.int (ah (aa (ab y1 0) 7))),(.int (ah (aa (ab y1 0) 8)))]),(.agg [(.int 0),(.int 0),(.int 16),(.int 0),(.int 4),(.int 0),(.int 0),(.int 2),(.int 0)])]),sd1,sd2]
 let y3:=ao (Q [pd0,pd1,pd2,pd3,(.int pn4),pd5,pd6,(.int pn7),(.int pn8),(ax (aa sd0 4) 0),sd1,sd2])
 let y4:=ab (Q [pd0,pd1,pd2,pd3,(.int pn4),pd5,pd6,(.int pn7),(.int pn8),(ax (aa sd0 4) 0),sd1,sd2]) 1
 let y5:=ab (Q [pd0,pd1,pd2,pd3,(.int pn4),pd5,pd6,(.int pn7),(.int pn8),(ax (aa sd0 4) 0),sd1,sd2]) 0
 let y6:=q50 [pd0,pd1,pd2,pd3,(.int pn4),pd5,pd6,(.int pn7),(.int pn8),(.list [(.agg [(.int 0),(.int 0),(.int 15),(.int 1),(.int 0),(.int 0),(.int 0),(.int 0),(.int 0)]),(.agg [(.int 0),(.int 0),(.int 25),(.int 0),(.int 0),(.int 1),(.int 0),(.int 0),(.int 0)])]),y5,y4]
 let y7:=q50 [pd0,pd1,pd2,pd3,(.int pn4),pd5,pd6,(.int pn7),(.int pn8),(.list [(.agg [(.int 0),(.int 0),(.int 5),(.int 0),(.int 0),(.int 0),(.int 1),(.int 0),(.int 0)]),(.agg [(.int 0),(.int 0),(.int 5),(.int 1),(.int 0),(.int 0),(.int 0),(.int 0),(.int 0)]),(.agg [(.int 0),(.int 0),(.int 7),(.int 0),(.int 0),(.int 0),(.int 0),(.int 1),(.int 0)])]),y5,y4]
 let y8:=q50 [pd0,pd1,pd2,pd3,(.int pn4),pd5,pd6,(.int pn7),(.int pn8),(.list [(.agg [(.int 0),(.int 0),(.int 16),(.int 0),(.int (ah (aa sd0 3))),(.int 0),(.int 0),(.int 0),(.int 0)])]),y5,y4]
 let y9:=aM .sub .i64 32 (aM .mul .i64 8 (ah (aa sd0 3)))
 let y10:=q50 [pd0,pd1,pd2,pd3,(.int pn4),pd5,pd6,(.int pn7),(.int pn8),(.list [(.agg [(.int 0),(.int (fz .u32 y9)),(.int 12),(.int 1),(.int 0),(.int 0),(.int 0),(.int 0),(.int 0)]),(.agg [(.int 0),(.int (fz .u32 y9)),(.int 14),(.int 1),(.int 0),(.int 0),(.int 0),(.int 0),(.int 0)])]),y5,y4]
 let y11:=q50 [pd0,pd1,pd2,pd3,(.int pn4),pd5,pd6,(.int pn7),(.int pn8),(.list [(.agg [(.int 0),(.int 0),(.int 3),(.int 0),(.int 0),(.int 0),(.int 0),(.int 0),(.int 0)])]),y5,y4]
 let y12:=ao (Q [pd0,pd1,pd2,pd3,(.int pn4),pd5,pd6,(.int pn7),(.int pn8),(ax (aa sd0 4) 1),(ab y11 0),(ab y11 1)])
 let y13:=ab (Q [pd0,pd1,pd2,pd3,(.int pn4),pd5,pd6,(.int pn7),(.int pn8),(ax (aa sd0 4) 1),(ab y11 0),(ab y11 1)]) 1
 let y14:=ab (Q [pd0,pd1,pd2,pd3,(.int pn4),pd5,pd6,(.int pn7),(.int pn8),(ax (aa sd0 4) 1),(ab y11 0),(ab y11 1)]) 0
 let y15:=q50 [pd0,pd1,pd2,pd3,(.int pn4),pd5,pd6,(.int pn7),(.int pn8),(.list [(.agg [(.int 0),(.int 0),(.int 5),(.int 0),(.int 0),(.int 0),(.int 1),(.int 0),(.int 0)]),(.agg [(.int 0),(.int 0),(.int 4),(.int 0),(.int 0),(.int 0),(.int 0),(.int 0),(.int 0)])]),y14,y13]
 let y16:=q103 [(.int (ah (aa sd0 0)))]
 let y17:=q50 [pd0,pd1,pd2,pd3,(.int pn4),pd5,pd6,(.int pn7),(.int pn8),(.list [(.agg [(.int 0),(.int 0),(.int (ah (ab y16 0))),(.int 0),(.int 0),(.int 0),(.int 0),(.int 1),(.int 0)])]),(ab y15 0),(ab y15 1)]
 let y18:=q104 [(.int (ah (aa sd0 0)))]
 let y19:=q50 [pd0,pd1,pd2,pd3,(.int pn4),pd5,pd6,(.int pn7),(.int pn8),(.list [(.agg [(.int 0),(.int 0),(.int 15),(.int 0),(.int 0),(.int 0),(.int 0),(.int 1),(.int 0)]),(.agg [(.int 0),(.int 0),(.int 25),(.int 0),(.int 0),(.int (ah (ab y18 0))),(.int 0),(.int 0),(.int 0)])]),(ab y15 0),(ab y15 1)]
 let x0:=ah (aa sd0 0)
 let x1:=ae .eql (ac sd2) (ac sd2)
 let x2:=ae .eql (ac sd1) (ac sd1)
 let x3:=ae .eql (ac pd1) (ac pd1)
 let x4:=ae .eql (ac pd0) (ac pd0)
 let x5:=D.int pn4
 let x6:=D.int pn7
 let x7:=D.int pn8
 let x8:=ae .eql (ac y4) (ac y4)
 let x9:=ae .eql (ac y5) (ac y5)
 let x10:=ac (ab y11 1)
 let x11:=ac (ab y11 0)
 let x12:=ac (ab y15 1)
 let x13:=ae .eql x12 x12
 let x14:=ac (ab y15 0)
 let x15:=ae .eql x14 x14
 bif ae .eql x0 1 then gd x1<|gd x2<|gd x3<|gd x4<|gd (ao y0)<|gd (ae .eql (ac (ab y0 1)) (ac (ab y0 1)))<|gd (ae .eql (ac (ab y0 0)) (ac (ab y0 0)))<|gd x3<|gd x4<|ge pd0<|ge pd1<|ge pd2<|ge pd3<|ge x5<|ge pd5<|ge pd6<|ge x6<|ge x7<|some [ab y0 0,ab y0 1]else bif ae .eql x0 2 then gd x1<|gd x2<|gd x3<|gd x4<|gd (ao y1)<|gd x1<|gd x2<|gd x3<|gd x4<|gd (ao y2)<|gd (ae .eql (ac (ab y2 1)) (ac (ab y2 1)))<|gd (ae .eql (ac (ab y2 0)) (ac (ab y2 0)))<|gd x3<|gd x4<|ge pd0<|ge pd1<|ge pd2<|ge pd3<|ge x5<|ge pd5<|ge pd6<|ge x6<|ge x7<|some [ab y2 0,ab y2 1]else gd (aS (aa sd0 4) 0)<|gd x1<|gd x2<|gd x3<|gd x4<|gd y3<|bif ae .eql x0 16 then gd x8<|gd x9<|gd x3<|gd x4<|gd (ao y6)<|gd (ae .eql (ac (ab y6 1)) (ac (ab y6 1)))<|gd (ae .eql (ac (ab y6 0)) (ac (ab y6 0)))<|gd x3<|gd x4<|ge pd0<|ge pd1<|ge pd2<|ge pd3<|ge x5<|ge pd5<|ge pd6<|ge x6<|ge x7<|some [ab y6 0,ab y6 1]else bif ae .eql x0 17 then gd x8<|gd x9<|gd x3<|gd x4<|gd (ao y7)<|gd (ae .eql (ac (ab y7 1)) (ac (ab y7 1)))<|gd (ae .eql (ac (ab y7 0)) (ac (ab y7 0)))<|gd x3<|gd x4<|ge pd0<|ge pd1<|ge pd2<|ge pd3<|ge x5<|ge pd5<|ge pd6<|ge x6<|ge x7<|some [ab y7 0,ab y7 1]else bif ae .eql x0 18 then gd x8<|gd x9<|gd x3<|gd x4<|gd (ao y8)<|gd (ae .eql (ac (ab y8 1)) (ac (ab y8 1)))<|gd (ae .eql (ac (ab y8 0)) (ac (ab y8 0)))<|gd x3<|gd x4<|ge pd0<|ge pd1<|ge pd2<|ge pd3<|ge x5<|ge pd5<|ge pd6<|ge x6<|ge x7<|some [ab y8 0,ab y8 1]else bif ae .eql x0 19 then gd x8<|gd x9<|gd x3<|gd x4<|gd (ao y10)<|gd (ae .eql (ac (ab y10 1)) (ac (ab y10 1)))<|gd (ae .eql (ac (ab y10 0)) (ac (ab y10 0)))<|gd x3<|gd x4<|ge pd0<|ge pd1<|ge pd2<|ge pd3<|ge x5<|ge pd5<|ge pd6<|ge x6<|ge x7<|some [ab y10 0,ab y10 1]else gd x8<|gd x9<|gd x3<|gd x4<|gd (ao y11)<|gd (aS (aa sd0 4) 1)<|gd (ae .eql x10 x10)<|gd (ae .eql x11 x11)<|gd x3<|gd x4<|gd y12<|gd (ae .eql (ac y13) (ac y13))<|gd (ae .eql (ac y14) (ac y14))<|gd x3<|gd x4<|gd (ao y15)<|gd (ao y16)<|bif aT (ab y16 1)then gd x13<|gd x15<|gd x3<|gd x4<|gd (ao y17)<|gd (ae .eql (ac (ab y17 1)) (ac (ab y17 1)))<|gd (ae .eql (ac (ab y17 0)) (ac (ab y17 0)))<|gd x3<|gd x4<|ge pd0<|ge pd1<|ge pd2<|ge pd3<|ge x5<|ge pd5<|ge pd6<|ge x6<|ge x7<|some [ab y17 0,ab y17 1]else gd (ao y18)<|gd x13<|gd x15<|gd x3<|gd x4<|gd (ao y19)<|gd (ae .eql (ac (ab y19 1)) (ac (ab y19 1)))<|gd (ae .eql (ac (ab y19 0)) (ac (ab y19 0)))<|gd x3<|gd x4<|ge pd0<|ge pd1<|ge pd2<|ge pd3<|ge x5<|ge pd5<|ge pd6<|ge x6<|ge x7<|some [ab y19 0,ab y19 1]:=by kernel_rfl
def Fb42_eq:=by have h:= @Fb42_e;simp only[aE,gd,aj,ai,ak,au,ar,aD,ap]at h;exact h
def F42:Nat->uAC:=levels Fb42
theorem F42_s (n:Nat):F42 (n+1)=Fb42 (F42 n):=rfl
def q42:uAC:=veil fun ds=>F42 (aW ds) ds
theorem Z0:q42=fun ds=>F42 (aW ds) ds:=am _
theorem sound42:aH env.P 42 S42 q42:=gj (fun q=>ZY q) (fun q hq=>ZZ q hq) Z0
def tb42:Tb:=Tb.addF ZX 42 S42 q42
theorem Rg:TbOk env tb42:=TbOk.addF Kl (by kernel_rfl) sound42
def S49:FunS:=⟨[utP 0 0],[(.lst false 106),(.lst false 106),(.mp false 9 106),(.mp false 106 3),(.lst false 106),(.lst false 46),(.cells [ufO 1 46,ufO 2 106,ufS (.map 3),ufS (.map 4),utI,ufR 9,ufR 9,ufS (.int .u32),ufI,ufO 5 106,ufO 6 106])],[utI],[(.lst false 106),(.lst false 106),(.mp false 9 106),(.mp false 106 3),(.lst false 106),(.lst false 46),(.cells [utO 1 46,utO 2 106,utS (.map 3),utS (.map 4),utI,ufR 9,ufR 9,ufS (.int .u32),ufI,utO 5 106,utO 6 106])]⟩
def F49:uAC:=aN env tb42 60 12 49 S49
theorem F49_e (pd0:D) (pd1:D) (pd2:D) (pd3:D) (pd4:D) (pd5:D) (pd6:D) (pd7:D) (pn8:Int) (pn9:Int) (sn0:Int):F49 [pd0,pd1,pd2,pd3,pd4,pd5,pd6,pd7,(D.int pn8),(D.int pn9),(D.int sn0)] =
 let x0:=D.int (aM .add .i64 sn0 1)
 gd (ae .eql (ac pd5) (ac pd5))<|gd (ae .eql (ac pd4) (ac pd4))<|gd (ae .eql (ac pd1) (ac pd1))<|gd (ae .eql (ac pd0) (ac pd0))<|ge pd0<|ge pd1<|ge pd2<|ge pd3<|ge pd4<|ge pd5<|ge pd6<|ge pd7<|ge (.int pn8)<|ge (.int pn9)<|some [x0,x0]:=by kernel_rfl
def F49_eq:=by have h:= @F49_e;simp only[aE,gd,aj,ai,ak,au,ar,aD,ap]at h;exact h
def q49:uAC:=veil (F49)
theorem Oi:q49=F49:=am _
def tb49:Tb:=Tb.addF tb42 49 S49 (q49)
theorem ok_tb49:TbOk env (tb49):=aI Rg 49 (by kernel_rfl) _ (Oi)
def S57:FunS:=⟨[utP 0 0,utI],[(.lst false 106),(.lst false 106),(.mp false 9 106),(.mp true 106 3),(.lst false 106),(.lst false 46),(.cells [ufO 1 46,ufO 2 106,ufS (.map 3),ufS (.map 4),ufI,ufR 9,ufR 9,ufS (.int .u32),ufI,ufO 5 106,ufO 6 106])],[utS (.tup [])],[(.lst false 106),(.lst false 106),(.mp false 9 106),(.mp true 106 3),(.lst false 106),(.lst false 46),(.cells [utO 1 46,utO 2 106,utS (.map 3),utS (.map 4),ufI,ufR 9,ufR 9,ufS (.int .u32),ufI,utO 5 106,utO 6 106])]⟩
def F57:uAC:=aN env tb49 60 12 57 S57
theorem F57_e (pd0:D) (pd1:D) (pd2:D) (pd3:D) (pd4:D) (pn5:Int) (pd6:D) (pd7:D) (pn8:Int) (pn9:Int) (sn0:Int) (sd1:D):F57 [pd0,pd1,pd2,pd3,pd4,(D.int pn5),pd6,pd7,(D.int pn8),(D.int pn9),(D.int sn0),sd1] =
 let y0:=cz (ae .eql (ac pd1) (ac pd1)) (ae .eql (ac pd0) (ac pd0))
 let y1:=cz (ae .eql pn8 pn8) (cz (ae .eql pn9 pn9) y0)
 let y2:=cz (ae .eql pn5 pn5) (cz (f8 pd6 pd6) (cz (f8 pd7 pd7) y1))
 let y3:=cz (ae .eql (ac pd4) (ac pd4)) (cz (ae .eql (ac pd3) (ac pd3)) y2)
 let x0:=ac pd4
 gd y3<|gd (ae .eql x0 x0)<|gd (ae .eql (ac pd3) (ac pd3))<|gd (ae .eql (ac pd1) (ac pd1))<|gd (ae .eql (ac pd0) (ac pd0))<|ge pd0<|ge pd1<|ge pd2<|ge pd3<|ge pd4<|ge (.int pn5)<|ge pd6<|ge pd7<|ge (.int pn8)<|ge (.int pn9)<|some [dB 106 sd1 (.int sn0) (.int x0)]:=by kernel_rfl
def F57_eq:=by have h:= @F57_e;simp only[aE,gd,aj,ai,ak,au,ar,aD,ap]at h;exact h
def q57:uAC:=veil (F57)
theorem Z1:q57=F57:=am _
def tb57:Tb:=Tb.addF tb49 57 S57 (q57)
theorem ok_tb57:TbOk env (tb57):=aI ok_tb49 57 (by kernel_rfl) _ (Z1)
def S174:FunS:=⟨[utP 0 0,utI,utI],[(.lst false 106),(.lst false 106),(.mp false 9 106),(.mp false 106 3),(.lst true 106),(.lst true 46),(.cells [ufO 1 46,ufO 2 106,ufS (.map 3),ufS (.map 4),ufI,ufR 9,ufR 9,ufS (.int .u32),ufI,ufO 5 106,ufO 6 106])],[utS (.tup [])],[(.lst true 106),(.lst true 46),(.lst false 106),(.lst false 106),(.mp false 9 106),(.mp false 106 3), .skip, .skip,(.cells [utO 7 46,utO 8 106,utS (.map 3),utS (.map 4),ufI,ufR 9,ufR 9,ufS (.int .u32),ufI,utO 5 106,utO 6 106])]⟩
def F174:uAC:=aN env tb57 60 12 174 S174
theorem F174_e (pd0:D) (pd1:D) (pd2:D) (pd3:D) (pn4:Int) (pd5:D) (pd6:D) (pn7:Int) (pn8:Int) (sn0:Int) (sn1:Int) (sd2:D) (sd3:D):F174 [pd0,pd1,pd2,pd3,(D.int pn4),pd5,pd6,(D.int pn7),(D.int pn8),(D.int sn0),(D.int sn1),sd2,sd3] =
 let y0:=Uo [pd0,pd1,pd2,pd3,sd2,(.int pn4),pd5,pd6,(.int pn7),(.int pn8),(.list [(.agg [(.int 0),(.int 0),(.int 20),(.int 2),(.int 0),(.int sn0),(.int 0),(.int 0),(.int 0)])]),sd3]
 let y1:=Kj [pd0,pd1,pd2,pd3,(ab y0 0),(.int pn4),pd5,pd6,(.int pn7),(.int pn8),(.list [(.int sn1)]),sd2]
 let x0:=ae .eql (ac sd2) (ac sd2)
 let x1:=ae .eql (ac pd1) (ac pd1)
 let x2:=ae .eql (ac pd0) (ac pd0)
 let x3:=ae .eql (ac (ab y0 0)) (ac (ab y0 0))
 gd (ae .eql (ac sd3) (ac sd3))<|gd x0<|gd x1<|gd x2<|gd (ao y0)<|gd x3<|gd x0<|gd x1<|gd x2<|gd (ao y1)<|gd x3<|gd (ae .eql (ac (ab y1 0)) (ac (ab y1 0)))<|gd x1<|gd x2<|ge pd0<|ge pd1<|ge pd2<|ge pd3<|ge (.int pn4)<|ge pd5<|ge pd6<|ge (.int pn7)<|ge (.int pn8)<|some [ab y1 0,ab y0 0]:=by kernel_rfl
def F174_eq:=by have h:= @F174_e;simp only[aE,gd,aj,ai,ak,au,ar,aD,ap]at h;exact h
def AB:uAC:=veil (F174)
theorem Rh:AB=F174:=am _
def Z2:Tb:=Tb.addF tb57 174 S174 (AB)
theorem Z3:TbOk env (Z2):=aI ok_tb57 174 (by kernel_rfl) _ (Rh)
def S59:FunS:=⟨[utP 0 0,⟨true, .str⟩],[(.lst false 106),(.lst false 106),(.mp false 9 106),(.mp false 106 3),(.lst true 106),(.lst true 46),(.cells [ufO 1 46,ufO 2 106,ufS (.map 3),ufS (.map 4),ufI,ufR 9,ufR 9,ufS (.int .u32),ufI,ufO 5 106,ufO 6 106])],[utS (.tup [])],[(.lst true 106),(.lst true 46),(.lst false 106),(.lst false 106),(.mp false 9 106),(.mp false 106 3), .skip, .skip,(.cells [utO 7 46,utO 8 106,utS (.map 3),utS (.map 4),ufI,ufR 9,ufR 9,ufS (.int .u32),ufI,utO 5 106,utO 6 106])]⟩
def F59:uAC:=aN env Z2 60 12 59 S59
theorem F59_e (pd0:D) (pd1:D) (pd2:D) (pd3:D) (pn4:Int) (pd5:D) (pd6:D) (pn7:Int) (pn8:Int) (ss0:ByteArray) (sd1:D) (sd2:D):F59 [pd0,pd1,pd2,pd3,(D.int pn4),pd5,pd6,(D.int pn7),(D.int pn8),(D.str ss0),sd1,sd2] =
 let y0:=q51 [pd0,pd1,pd2,pd3,sd1,sd2,(.int pn4),pd5,pd6,(.int pn7),(.int pn8),(.str ss0)]
 let y1:=q50 [pd0,pd1,pd2,pd3,(.int pn4),pd5,pd6,(.int pn7),(.int pn8),(.list [(.agg [(.int (ah (aa (ab y0 0) 0))),(.int (ah (aa (ab y0 0) 1))),(.int (ah (aa (ab y0 0) 2))),(.int (ah (aa (ab y0 0) 3))),(.int (ah (aa (ab y0 0) 4))),(.int (ah (aa (ab y0 0) 5))),(.int (ah (aa (ab y0 0) 6))),(.int (ah (aa (ab y0 0) 7))),(.int (ah (aa (ab y0 0) 8)))]),(.agg [(.int 0),(.int 0),(.int 18),(.int 0),(.int 4),(.int 0),(.int 0),(.int 2),(.int 0)])]),sd1,sd2]
 let x0:=ae .eql (ac sd2) (ac sd2)
 let x1:=ae .eql (ac sd1) (ac sd1)
 let x2:=ae .eql (ac pd1) (ac pd1)
 let x3:=ae .eql (ac pd0) (ac pd0)
 gd x0<|gd x1<|gd x2<|gd x3<|gd (ao y0)<|gd x0<|gd x1<|gd x2<|gd x3<|gd (ao y1)<|gd (ae .eql (ac (ab y1 1)) (ac (ab y1 1)))<|gd (ae .eql (ac (ab y1 0)) (ac (ab y1 0)))<|gd x2<|gd x3<|ge pd0<|ge pd1<|ge pd2<|ge pd3<|ge (.int pn4)<|ge pd5<|ge pd6<|ge (.int pn7)<|ge (.int pn8)<|some [ab y1 0,ab y1 1]:=by kernel_rfl
def F59_eq:=by have h:= @F59_e;simp only[aE,gd,aj,ai,ak,au,ar,aD,ap]at h;exact h
def q59:uAC:=veil (F59)
theorem Z4:q59=F59:=am _
def tb59:Tb:=Tb.addF Z2 59 S59 (q59)
theorem Ri:TbOk env (tb59):=aI Z3 59 (by kernel_rfl) _ (Z4)
def S225:FunS:=⟨[utP 0 0,utD 25,utI],[(.lst false 106),(.lst false 106),(.mp false 9 106),(.mp false 106 3),(.lst true 106),(.lst true 46),(.cells [ufO 1 46,ufO 2 106,ufS (.map 3),ufS (.map 4),ufI,ufR 9,ufR 9,ufS (.int .u32),ufI,ufO 5 106,ufO 6 106])],[utS (.tup [])],[(.lst true 106),(.lst true 46),(.lst false 106),(.lst false 106),(.mp false 9 106),(.mp false 106 3), .skip, .skip,(.cells [utO 7 46,utO 8 106,utS (.map 3),utS (.map 4),ufI,ufR 9,ufR 9,ufS (.int .u32),ufI,utO 5 106,utO 6 106])]⟩
def F225:uAC:=aN env tb59 60 12 225 S225
theorem F225_e (pd0:D) (pd1:D) (pd2:D) (pd3:D) (pn4:Int) (pd5:D) (pd6:D) (pn7:Int) (pn8:Int) (sd0:D) (sn1:Int) (sd2:D) (sd3:D):F225 [pd0,pd1,pd2,pd3,(D.int pn4),pd5,pd6,(D.int pn7),(D.int pn8),sd0,(D.int sn1),sd2,sd3] =
 let y0:=q42 [pd0,pd1,pd2,pd3,(.int pn4),pd5,pd6,(.int pn7),(.int pn8),sd0,sd2,sd3]
 let y1:=q50 [pd0,pd1,pd2,pd3,(.int pn4),pd5,pd6,(.int pn7),(.int pn8),(.list [(.agg [(.int 0),(.int 0),(.int 15),(.int 1),(.int 0),(.int 0),(.int 0),(.int 0),(.int 0)])]),(ab y0 0),(ab y0 1)]
 let y2:=AB [pd0,pd1,pd2,pd3,(.int pn4),pd5,pd6,(.int pn7),(.int pn8),(.int 1),(.int sn1),(ab y1 0),(ab y1 1)]
 let x0:=ae .eql (ac pd1) (ac pd1)
 let x1:=ae .eql (ac pd0) (ac pd0)
 let x2:=ac (ab y0 1)
 let x3:=ac (ab y0 0)
 let x4:=ac (ab y1 1)
 let x5:=ac (ab y1 0)
 gd (ae .eql (ac sd3) (ac sd3))<|gd (ae .eql (ac sd2) (ac sd2))<|gd x0<|gd x1<|gd (ao y0)<|gd (ae .eql x2 x2)<|gd (ae .eql x3 x3)<|gd x0<|gd x1<|gd (ao y1)<|gd (ae .eql x4 x4)<|gd (ae .eql x5 x5)<|gd x0<|gd x1<|gd (ao y2)<|gd (ae .eql (ac (ab y2 1)) (ac (ab y2 1)))<|gd (ae .eql (ac (ab y2 0)) (ac (ab y2 0)))<|gd x0<|gd x1<|ge pd0<|ge pd1<|ge pd2<|ge pd3<|ge (.int pn4)<|ge pd5<|ge pd6<|ge (.int pn7)<|ge (.int pn8)<|some [ab y2 0,ab y2 1]:=by kernel_rfl
def F225_eq:=by have h:= @F225_e;simp only[aE,gd,aj,ai,ak,au,ar,aD,ap]at h;exact h
def Up:uAC:=veil (F225)
theorem F7:Up=F225:=am _
def Z5:Tb:=Tb.addF tb59 225 S225 (Up)
theorem Z6:TbOk env (Z5):=aI Ri 225 (by kernel_rfl) _ (F7)
def S176:FunS:=⟨[utP 0 0,⟨true, .str⟩],[(.lst false 106),(.lst false 106),(.mp true 9 106),(.mp false 106 3),(.lst false 106),(.lst false 46),(.cells [ufO 1 46,ufO 2 106,ufS (.map 3),ufS (.map 4),utI,ufR 9,ufR 9,ufS (.int .u32),ufI,ufO 5 106,ufO 6 106])],[utI],[(.lst false 106),(.lst false 106),(.mp true 9 106),(.mp false 106 3),(.lst false 106),(.lst false 46),(.cells [utO 1 46,utO 2 106,utS (.map 3),utS (.map 4),utI,ufR 9,ufR 9,ufS (.int .u32),ufI,utO 5 106,utO 6 106])]⟩
def F176:uAC:=aN env Z5 60 12 176 S176
theorem F176_e (pd0:D) (pd1:D) (pd2:D) (pd3:D) (pd4:D) (pd5:D) (pd6:D) (pn7:Int) (pn8:Int) (ss0:ByteArray) (sd1:D) (sn2:Int):F176 [pd0,pd1,pd2,pd3,pd4,pd5,pd6,(D.int pn7),(D.int pn8),(D.str ss0),sd1,(D.int sn2)] =
 let y0:=q49 [pd0,pd1,sd1,pd2,pd3,pd4,pd5,pd6,(.int pn7),(.int pn8),(.int sn2)]
 let x0:=D.str ss0
 let x1:=ae .eql (ac pd4) (ac pd4)
 let x2:=ae .eql (ac pd3) (ac pd3)
 let x3:=ae .eql (ac pd1) (ac pd1)
 let x4:=ae .eql (ac pd0) (ac pd0)
 let x5:=D.int (ah (ab y0 0))
 bif b8 (te 9 sd1 x0)then gd x1<|gd x2<|gd x3<|gd x4<|gd (ao y0)<|gd x1<|gd x2<|gd x3<|gd x4<|ge pd0<|ge pd1<|ge pd2<|ge pd3<|ge pd4<|ge pd5<|ge pd6<|ge (.int pn7)<|ge (.int pn8)<|some [x5,dB 9 sd1 x0 x5,.int (ah (ab y0 1))]else gd x1<|gd x2<|gd x3<|gd x4<|ge pd0<|ge pd1<|ge pd2<|ge pd3<|ge pd4<|ge pd5<|ge pd6<|ge (.int pn7)<|ge (.int pn8)<|some [.int (ah (lS 9 (.int 0) sd1 x0)),sd1,.int sn2]:=by kernel_rfl
def Rj:=by have h:= @F176_e;simp only[aE,gd,aj,ai,ak,au,ar,aD,ap]at h;exact h
def Z7:uAC:=veil (F176)
theorem F8:Z7=F176:=am _
def Z8:Tb:=Tb.addF Z5 176 S176 (Z7)
theorem Km:TbOk env (Z8):=aI Z6 176 (by kernel_rfl) _ (F8)
end
end Go.Proofs.YtiojjmlccehpoaaGreat
