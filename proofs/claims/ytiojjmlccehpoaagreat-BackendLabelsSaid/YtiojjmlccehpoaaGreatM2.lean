/-
  Made by gen3.py: what functions of the seat compute, as partial functions on data, and that they do.
-/
import Derived.Test.YtiojjmlccehpoaaGreatM1
import Derived.KernelRfl
set_option linter.defProp false
set_option linter.unusedSimpArgs false
set_option linter.unusedVariables false
set_option maxRecDepth 100000
open Go Go.AM
namespace Go.Proofs.YtiojjmlccehpoaaGreat
noncomputable section
def S177_2:LoopS:=⟨0,ufR 65::ufR 65::uF::uF::ufZ::utI::uAA 41 [],[],[⟨0,0,ufR 65::ufR 65::uT::uT::utZ::uAB 42 [],[]⟩,⟨1,0,ufR 65::ufR 65::uT::uT::utI::uAB 42 [],[]⟩]⟩
def uE (p s:List D):Option (Sum (List D) (List D)):=aP env V8 60 12 177 (bb 177 2) S177_2 p s
theorem RE (pd0:D) (pd1:D) (sn0:Int):uE [pd0,pd1] [(D.int sn0)] =
 let x0:=aS pd1 sn0
 let x1:=ay pd1 sn0
 let x2:=D.str (aB (aa x1 0))
 let x3:=DS [x2]
 let x4:=D.int 1
 let x5:=Lm [pd0,x2]
 let x6:Option (List D ⊕ List D):=ge pd0<|ge pd1<|some (Sum.inr [x4,.int 8])
 let x7:=Lm [dr pd1 0 sn0,x2]
 let x8:=aa x1 1
 let x9:=L5 [.agg [.int (ah (aa x8 0)),.int (ah (aa x8 1)),.int (ah (aa x8 2)),aa x8 3,aa x8 4]]
 let x10:=ah (ac x9 0)
 bif ab .lss sn0 (ae pd1)then gd x0<|gd (ap x3)<|bif bU (aQ (ac x3 0))then ge pd0<|ge pd1<|some (Sum.inr [x4,.int 3])else gd x0<|gd (ap x5)<|bif aQ (ac x5 0)then x6 else gd (ab .leq 0 0)<|gd (ab .leq 0 sn0)<|gd (ab .leq sn0 (ae pd1))<|gd x0<|gd (ap x7)<|bif aQ (ac x7 0)then x6 else gd x0<|gd (ap x9)<|bif ab .neq x10 0 then ge pd0<|ge pd1<|some (Sum.inr [x4,.int x10])else ge pd0<|ge pd1<|some (Sum.inl [.int (aM .add .i64 sn0 1)])else ge pd0<|ge pd1<|some (Sum.inr [.int 0]):=by kernel_rfl
def yq:=by have h:= @RE;simp only[aF,gd,am,ak,ao,au,ar,aE,aj]at h;exact h
def yr:List D->uAC:=veil fun p s=>loW (uE p) s
theorem B8:yr=fun p s=>loW (uE p) s:=ai _
def yt:Tb:=Tb.addL V8 177 2 S177_2.n0 (bQ S177_2 (yr))
theorem If:TbOk env (yt):=aG V9 177 2 (by kernel_rfl) _ (B8)
def S177:FunS:=⟨[utR 65,utR 65],[],[utI],[]⟩
def F177:uAC:=aO env yt 60 12 177 S177
theorem F177_eq (sd0:D) (sd1:D):F177 [sd0,sd1] =
 bif (ap (yr [sd0,sd1] [(D.int 0)]))then
  bif (ab BinOp.eql (ah (ac (yr [sd0,sd1] [(D.int 0)]) 0)) 0)then
   some [(D.int 0)]
  else
   some [(D.int (ah (ac (yr [sd0,sd1] [(D.int 0)]) 1)))]
 else
  none:=by kernel_rfl
def Wa:uAC:=veil (F177)
theorem OR:Wa=F177:=ai _
def Wb:Tb:=Tb.addF yt 177 S177 (Wa)
theorem Wc:TbOk env (Wb):=aJ If 177 (by kernel_rfl) _ (OR)
def S178_7:LoopS:=⟨0,ufR 162::uF::ufZ::ufI::utI::uAA 36 [],[],[⟨0,2,ufR 162::uT::utZ::ufI::uAB 37 [],[]⟩,⟨1,0,ufR 162::uT::utS (.lit (.int .i64 8))::ufI::uAB 37 [],[]⟩]⟩
def uG (p s:List D):Option (Sum (List D) (List D)):=aP env Wb 60 12 178 (bb 178 7) S178_7 p s
theorem RF (pd0:D) (pn1:Int) (sn0:Int):uG [pd0,(D.int pn1)] [(D.int sn0)] =
 let x0:=D.int pn1
 bif ab .lss sn0 pn1 then gd (aS pd0 sn0)<|gd (aS pd0 pn1)<|bif cI .eql (aB (aa (ay pd0 sn0) 0)) (aB (aa (ay pd0 pn1) 0))then ge pd0<|ge x0<|some (Sum.inr [.int 1])else ge pd0<|ge x0<|some (Sum.inl [.int (aM .add .i64 sn0 1)])else ge pd0<|ge x0<|some (Sum.inr [.int 0]):=by kernel_rfl
def yu:=by have h:= @RF;simp only[aF,gd,am,ak,ao,au,ar,aE,aj]at h;exact h
def L6:List D->uAC:=veil fun p s=>loW (uG p) s
theorem B9:L6=fun p s=>loW (uG p) s:=ai _
def yw:Tb:=Tb.addL Wb 178 7 S178_7.n0 (bQ S178_7 (L6))
theorem Ig:TbOk env (yw):=aG Wc 178 7 (by kernel_rfl) _ (B9)
def S178_2:LoopS:=⟨0,ufR 162::uF::ufZ::utI::uAA 37 [],[],[⟨0,0,ufR 162::uT::utZ::uAB 38 [],[]⟩,⟨1,0,ufR 162::uT::utI::uAB 38 [],[]⟩]⟩
def uH (p s:List D):Option (Sum (List D) (List D)):=aP env yw 60 12 178 (bb 178 2) S178_2 p s
theorem RG (pd0:D) (sn0:Int):uH [pd0] [(D.int sn0)] =
 let x0:=aS pd0 sn0
 let x1:=ay pd0 sn0
 let x2:=DS [.str (aB (aa x1 0))]
 let x3:=D.int 1
 let x4:=L6 [pd0,.int sn0] [.int 0]
 bif ab .lss sn0 (ae pd0)then gd x0<|gd (ap x2)<|bif bU (aQ (ac x2 0))then ge pd0<|some (Sum.inr [x3,.int 3])else gd (ap x4)<|bif ab .eql (ah (ac x4 0)) 0 then gd x0<|bif ab .gtr (ae (aa x1 2)) 65536 then ge pd0<|some (Sum.inr [x3,.int 6])else ge pd0<|some (Sum.inl [.int (aM .add .i64 sn0 1)])else ge pd0<|some (Sum.inr [x3,.int 8])else ge pd0<|some (Sum.inr [.int 0]):=by kernel_rfl
def yx:=by have h:= @RG;simp only[aF,gd,am,ak,ao,au,ar,aE,aj]at h;exact h
def yy:List D->uAC:=veil fun p s=>loW (uH p) s
theorem Ca:yy=fun p s=>loW (uH p) s:=ai _
def yz:Tb:=Tb.addL yw 178 2 S178_2.n0 (bQ S178_2 (yy))
theorem Ih:TbOk env (yz):=aG Ig 178 2 (by kernel_rfl) _ (Ca)
def S178:FunS:=⟨[utR 162],[],[utI],[]⟩
def F178:uAC:=aO env yz 60 12 178 S178
theorem F178_eq (sd0:D):F178 [sd0] =
 bif (ap (yy [sd0] [(D.int 0)]))then
  bif (ab BinOp.eql (ah (ac (yy [sd0] [(D.int 0)]) 0)) 0)then
   some [(D.int 0)]
  else
   some [(D.int (ah (ac (yy [sd0] [(D.int 0)]) 1)))]
 else
  none:=by kernel_rfl
def q178:uAC:=veil (F178)
theorem OS:q178=F178:=ai _
def We:Tb:=Tb.addF yz 178 S178 (q178)
theorem Wf:TbOk env (We):=aJ Ih 178 (by kernel_rfl) _ (OS)
def S179_2:LoopS:=⟨0,ufR 38::ufI::⟨false, .str⟩::uF::uF::uF::ufS (.lit (.bool false))::utI::uAA 12 [],[],[⟨0,0,ufR 38::ufI::⟨false, .str⟩::uT::uT::uT::utS (.lit (.bool false))::uAB 13 [],[]⟩,⟨1,0,ufR 38::ufI::⟨false, .str⟩::uT::uT::uT::utS (.lit (.bool true))::uAB 13 [],[]⟩]⟩
def uI (p s:List D):Option (Sum (List D) (List D)):=aP env We 60 12 179 (bb 179 2) S179_2 p s
theorem RH (pd0:D) (pn1:Int) (ps2:ByteArray) (sn0:Int):uI [pd0,(D.int pn1),(D.str ps2)] [(D.int sn0)] =
 let x0:=D.int pn1
 let x1:=D.str ps2
 bif ab .lss sn0 pn1 then gd (aS pd0 sn0)<|bif cI .eql (aB (aa (ay pd0 sn0) 0)) ps2 then ge pd0<|ge x0<|ge x1<|some (Sum.inr [.int 1])else ge pd0<|ge x0<|ge x1<|some (Sum.inl [.int (aM .add .i64 sn0 1)])else ge pd0<|ge x0<|ge x1<|some (Sum.inr [.int 0]):=by kernel_rfl
def yA:=by have h:= @RH;simp only[aF,gd,am,ak,ao,au,ar,aE,aj]at h;exact h
def Er:List D->uAC:=veil fun p s=>loW (uI p) s
theorem Cb:Er=fun p s=>loW (uI p) s:=ai _
def yB:Tb:=Tb.addL We 179 2 S179_2.n0 (bQ S179_2 (Er))
theorem Ii:TbOk env (yB):=aG Wf 179 2 (by kernel_rfl) _ (Cb)
def S179:FunS:=⟨[utR 38,utI,⟨true, .str⟩],[],[utB],[]⟩
def F179:uAC:=aO env yB 60 12 179 S179
theorem F179_eq (sd0:D) (sn1:Int) (ss2:ByteArray):F179 [sd0,(D.int sn1),(D.str ss2)] =
 bif (ap (Er [sd0,(D.int sn1),(D.str ss2)] [(D.int 0)]))then
  bif (ab BinOp.eql (ah (ac (Er [sd0,(D.int sn1),(D.str ss2)] [(D.int 0)]) 0)) 0)then
   some [(D.bool Bool.false)]
  else
   some [(D.bool Bool.true)]
 else
  none:=by kernel_rfl
def Wg:uAC:=veil (F179)
theorem OT:Wg=F179:=ai _
def Wh:Tb:=Tb.addF yB 179 S179 (Wg)
theorem Ij:TbOk env (Wh):=aJ Ii 179 (by kernel_rfl) _ (OT)
def L7:FunS:=⟨[utR 187,utI],[],[utI],[]⟩
def L8 (Q:uAC):Tb:=Tb.addF Wh 227 L7 Q
theorem RI (Q:uAC) (hQ:aH env.P 227 L7 Q):TbOk env (L8 Q):=TbOk.addF Ij (by kernel_rfl) hQ
def S227_14:LoopS:=⟨0,ufR 187::ufI::uF::uF::ufZ::utI::ufI::uF::utI::uAA 64 [],[],[⟨0,2,ufR 187::ufI::uT::uT::utZ::utI::ufI::uAB 66 [],[]⟩]⟩
def pK (Q:uAC) (p s:List D):Option (Sum (List D) (List D)):=aP env (L8 Q) 60 12 227 (bb 227 14) S227_14 p s
theorem L9 (Q:uAC) (pd0:D) (pn1:Int) (pn2:Int) (sn0:Int) (sn1:Int):pK Q [pd0,(D.int pn1),(D.int pn2)] [(D.int sn0),(D.int sn1)] =
 let x0:=aS pd0 pn2
 let x1:=aa (ay pd0 pn2) 6
 let x2:=Q [ay x1 sn1,.int (aM .sub .i64 pn1 1)]
 let x3:=ah (ac x2 0)
 let x4:=D.int pn1
 let x5:=D.int pn2
 let x6:=D.int (aM .add .i64 sn1 1)
 gd x0<|bif ab .lss sn1 (ae x1)then gd x0<|gd (aS x1 sn1)<|gd (ap x2)<|bif ab .gtr x3 sn0 then ge pd0<|ge x4<|ge x5<|some (Sum.inl [.int x3,x6])else ge pd0<|ge x4<|ge x5<|some (Sum.inl [.int sn0,x6])else ge pd0<|ge x4<|ge x5<|some (Sum.inr [.int 0,.int sn0]):=by kernel_rfl
def th:=by have h:= @L9;simp only[aF,gd,am,ak,ao,au,ar,aE,aj]at h;exact h
def uJ (Q:uAC):List D->uAC:=veil fun p s=>loW (pK Q p) s
theorem yC (Q:uAC):uJ Q=fun p s=>loW (pK Q p) s:=ai _
def rD (Q:uAC):Tb:=Tb.addL (L8 Q) 227 14 S227_14.n0 (bQ S227_14 (uJ Q))
theorem Es (Q:uAC) (hQ:aH env.P 227 L7 Q):TbOk env (rD Q):=aG (RI Q hQ) 227 14 (by kernel_rfl) _ (yC Q)
def S227_5:LoopS:=⟨0,ufR 187::ufI::uF::uF::ufZ::utI::utI::uAA 66 [],[],[⟨0,0,ufR 187::ufI::uT::uT::utZ::utI::uAB 67 [],[]⟩]⟩
def uK (Q:uAC) (p s:List D):Option (Sum (List D) (List D)):=aP env (rD Q) 60 12 227 (bb 227 5) S227_5 p s
theorem RJ (Q:uAC) (pd0:D) (pn1:Int) (sn0:Int) (sn1:Int):uK Q [pd0,(D.int pn1)] [(D.int sn0),(D.int sn1)] =
 let x0:=aS pd0 sn1
 let x1:=ay pd0 sn1
 let x2:=D.int (aM .sub .i64 pn1 1)
 let x3:=Q [aa x1 4,x2]
 let x4:=Q [aa x1 5,x2]
 let x5:=D.int pn1
 let x6:=ah (ac x4 0)
 let x7:=ah (ac x3 0)
 let x8:=fC (ab .gtr x7 sn0) x7 sn0
 let x9:=uJ Q [pd0,x5,.int sn1] [.int (fC (ab .gtr x6 x8) x6 x8),.int 0]
 bif ab .lss sn1 (ae pd0)then gd x0<|gd (ap x3)<|gd x0<|gd (ap x4)<|gd (ap x9)<|ge pd0<|ge x5<|some (Sum.inl [.int (ah (ac x9 1)),.int (aM .add .i64 sn1 1)])else ge pd0<|ge x5<|some (Sum.inr [.int 0,.int sn0]):=by kernel_rfl
def yD:=by have h:= @RJ;simp only[aF,gd,am,ak,ao,au,ar,aE,aj]at h;exact h
def Et (Q:uAC):List D->uAC:=veil fun p s=>loW (uK Q p) s
theorem Cc (Q:uAC):Et Q=fun p s=>loW (uK Q p) s:=ai _
def yE (Q:uAC):Tb:=Tb.addL (rD Q) 227 5 S227_5.n0 (bQ S227_5 (Et Q))
theorem Ik (Q:uAC) (hQ:aH env.P 227 L7 Q):TbOk env (yE Q):=aG (Es Q hQ) 227 5 (by kernel_rfl) _ (Cc Q)
def Wi (Q:uAC):uAC:=aO env (yE Q) 60 12 227 L7
theorem Wj (Q:uAC) (sd0:D) (sn1:Int):Wi Q [sd0,(D.int sn1)] =
 bif (aw (ab BinOp.eql (ae sd0) 0) Bool.true (ab BinOp.lss sn1 0))then
  some [(D.int 0)]
 else
  bif (ap (Et Q [sd0,(D.int sn1)] [(D.int 0),(D.int 0)]))then
   some [(D.int (aM BinOp.add IntKind.i64 (ah (ac (Et Q [sd0,(D.int sn1)] [(D.int 0),(D.int 0)]) 1)) 1))]
  else
   none:=by kernel_rfl
def Il:Nat->uAC:=levels Wi
theorem F227_s (n:Nat):Il (n+1)=Wi (Il n):=rfl
def q227:uAC:=veil fun ds=>Il (aY ds) ds
theorem OU:q227=fun ds=>Il (aY ds) ds:=ai _
theorem Wl:aH env.P 227 L7 q227:=gM (fun q=>yE q) (fun q hq=>Ik q hq) OU
def Wm:Tb:=Tb.addF Wh 227 L7 q227
theorem Im:TbOk env Wm:=TbOk.addF Ij (by kernel_rfl) Wl
def Ma:FunS:=⟨[utR 187,utB],[],[utR 299],[]⟩
def Mb (Q:uAC):Tb:=Tb.addF Wm 228 Ma Q
theorem RK (Q:uAC) (hQ:aH env.P 228 Ma Q):TbOk env (Mb Q):=TbOk.addF Im (by kernel_rfl) hQ
def S228_9:LoopS:=⟨0,ufR 187::ufB::uF::uF::ufN::ufO 0 299::ufI::utI::uAA 72 [],[(.lst true 299)],[⟨0,2,ufR 187::ufB::uT::uT::utN::utO 0 299::ufI::uAB 73 [],[(.lst true 299)]⟩]⟩
def uL (Q:uAC) (p s:List D):Option (Sum (List D) (List D)):=aP env (Mb Q) 60 12 228 (bb 228 9) S228_9 p s
theorem RL (Q:uAC) (pd0:D) (pb1:Bool) (pn2:Int) (sn0:Int) (sd1:D):uL Q [pd0,(D.bool pb1),(D.int pn2)] [(D.int sn0),sd1] =
 let x0:=aS pd0 pn2
 let x1:=aa (ay pd0 pn2) 6
 let x2:=D.bool pb1
 let x3:=Q [ay x1 sn0,x2]
 let x4:=ab .eql (ae sd1) (ae sd1)
 let x5:=bG sd1 (ac x3 0)
 let x6:=ae x5
 gd x0<|bif ab .lss sn0 (ae x1)then gd x0<|gd (aS x1 sn0)<|gd (ap x3)<|gd x4<|gd (cA x6 136)<|gd (ab .eql x6 x6)<|ge pd0<|ge x2<|ge (.int pn2)<|some (Sum.inl [.int (aM .add .i64 sn0 1),x5])else gd x4<|ge pd0<|ge x2<|ge (.int pn2)<|some (Sum.inr [.int 0,sd1]):=by kernel_rfl
def yF:=by have h:= @RL;simp only[aF,gd,am,ak,ao,au,ar,aE,aj]at h;exact h
def yG (Q:uAC):List D->uAC:=veil fun p s=>loW (uL Q p) s
theorem Cd (Q:uAC):yG Q=fun p s=>loW (uL Q p) s:=ai _
def yH (Q:uAC):Tb:=Tb.addL (Mb Q) 228 9 S228_9.n0 (bQ S228_9 (yG Q))
theorem In (Q:uAC) (hQ:aH env.P 228 Ma Q):TbOk env (yH Q):=aG (RK Q hQ) 228 9 (by kernel_rfl) _ (Cd Q)
def S228_3:LoopS:=⟨0,ufR 187::ufB::uF::uF::ufN::ufO 0 299::utI::uAA 73 [],[(.lst true 299)],[⟨0,0,ufR 187::ufB::uT::uT::utN::utO 0 299::uAB 74 [],[(.lst true 299)]⟩]⟩
def uM (Q:uAC) (p s:List D):Option (Sum (List D) (List D)):=aP env (yH Q) 60 12 228 (bb 228 3) S228_3 p s
theorem RM (Q:uAC) (pd0:D) (pb1:Bool) (sn0:Int) (sd1:D):uM Q [pd0,(D.bool pb1)] [(D.int sn0),sd1] =
 let x0:=aS pd0 sn0
 let x1:=ab .eql (ae sd1) (ae sd1)
 let x2:=ay pd0 sn0
 let x3:=ah (aa x2 0)
 let x4:=aa x2 4
 let x5:=D.bool pb1
 let x6:=bG sd1 (.list [.agg [.agg [.int x3,.int (ah (aa x2 1)),.str (aB (aa x2 2)),aa x2 3,x4,aa x2 5,aa x2 6],x5]])
 let x7:=ae x6
 let x8:=Q [x4,.bool true]
 let x9:=ab .eql x7 x7
 let x10:=bG x6 (ac x8 0)
 let x11:=ae x10
 let x12:=Q [aa x2 5,x5]
 let x13:=bG x10 (ac x12 0)
 let x14:=ae x13
 let x15:List D:=[pd0,x5,.int sn0]
 let x16:=D.int 0
 let x17:=yG Q x15 [x16,x13]
 let x18:=D.int (aM .add .i64 sn0 1)
 let x19:Option (List D ⊕ List D):=gd (ap x8)<|gd x9<|gd (cA x11 136)<|gd x0<|gd (ap x12)<|gd (ab .eql x11 x11)<|gd (cA x14 136)<|gd (ab .eql x14 x14)<|gd (ap x17)<|gd (ab .eql (ae (ac x17 1)) (ae (ac x17 1)))<|ge pd0<|ge x5<|some (Sum.inl [x18,ac x17 1])
 let x20:=Q [x4,.bool (ab .eql x3 8)]
 let x21:=bG x6 (ac x20 0)
 let x22:=ae x21
 let x23:=bG x21 (ac x12 0)
 let x24:=ae x23
 let x25:=yG Q x15 [x16,x23]
 bif ab .lss sn0 (ae pd0)then gd x0<|gd x1<|gd (cA x7 136)<|gd x0<|bif pb1 then x19 else gd x0<|bif ab .eql x3 7 then x19 else gd x0<|gd (ap x20)<|gd x9<|gd (cA x22 136)<|gd x0<|gd (ap x12)<|gd (ab .eql x22 x22)<|gd (cA x24 136)<|gd (ab .eql x24 x24)<|gd (ap x25)<|gd (ab .eql (ae (ac x25 1)) (ae (ac x25 1)))<|ge pd0<|ge x5<|some (Sum.inl [x18,ac x25 1])else gd x1<|ge pd0<|ge x5<|some (Sum.inr [x16,sd1]):=by kernel_rfl
def yI:=by have h:= @RM;simp only[aF,gd,am,ak,ao,au,ar,aE,aj]at h;exact h
def Mc (Q:uAC):List D->uAC:=veil fun p s=>loW (uM Q p) s
theorem Ce (Q:uAC):Mc Q=fun p s=>loW (uM Q p) s:=ai _
def yJ (Q:uAC):Tb:=Tb.addL (yH Q) 228 3 S228_3.n0 (bQ S228_3 (Mc Q))
theorem Io (Q:uAC) (hQ:aH env.P 228 Ma Q):TbOk env (yJ Q):=aG (In Q hQ) 228 3 (by kernel_rfl) _ (Ce Q)
def Wn (Q:uAC):uAC:=aO env (yJ Q) 60 12 228 Ma
theorem Fb228_e (Q:uAC) (sd0:D) (sb1:Bool):Wn Q [sd0,(D.bool sb1)] =
 let x0:=Mc Q [sd0,.bool sb1] [.int 0,.list []]
 gd (ab .eql 0 (ae (.list [])))<|gd (ap x0)<|gd (ab .eql (ae (ac x0 1)) (ae (ac x0 1)))<|some [ac x0 1]:=by kernel_rfl
def Wo:=by have h:= @Fb228_e;simp only[aF,gd,am,ak,ao,au,ar,aE,aj]at h;exact h
def Ip:Nat->uAC:=levels Wn
theorem F228_s (n:Nat):Ip (n+1)=Wn (Ip n):=rfl
def q228:uAC:=veil fun ds=>Ip (aY ds) ds
theorem OV:q228=fun ds=>Ip (aY ds) ds:=ai _
theorem Wp:aH env.P 228 Ma q228:=gM (fun q=>yJ q) (fun q hq=>Io q hq) OV
def Wq:Tb:=Tb.addF Wm 228 Ma q228
theorem Wr:TbOk env Wq:=TbOk.addF Im (by kernel_rfl) Wp
def S264:FunS:=⟨[utI],[],[utS (.tup [(.int .i64), .bool, .bool, .bool])],[]⟩
def F264:uAC:=aO env Wq 60 12 264 S264
theorem F264_e (sn0:Int):F264 [(D.int sn0)] =
 let x0:=D.int 1
 let x1:=D.bool true
 let x2:=D.bool false
 let x3:=ab .eql sn0 3
 let x4:=ab .eql sn0 5
 let x5:=ab .eql sn0 12
 let x6:=D.int 0
 let x7:=ab .eql sn0 4
 let x8:=ab .eql sn0 6
 let x9:=ab .eql sn0 10
 let x10:=ab .eql sn0 11
 let x11:=ab .eql sn0 14
 bif ab .eql sn0 1 then some [x0,x1,x2,x1]else bif ab .eql sn0 2 then some [.int 2,x2,x2,x1]else bif aw x3 x3 (aw x4 x4 (aw x5 x5 (ab .eql sn0 13)))then some [x6,x1,x2,x1]else bif aw x7 x7 (ab .eql sn0 9)then some [x0,x2,x2,x1]else bif aw x8 x8 (ab .eql sn0 7)then some [x0,x2,x1,x1]else bif ab .eql sn0 8 then some [x6,x2,x1,x1]else bif aw x9 x9 (aw x10 x10 (aw x11 x11 (ab .eql sn0 15)))then some [x6,x2,x2,x1]else some [x6,x2,x2,x2]:=by kernel_rfl
def F264_eq:=by have h:= @F264_e;simp only[aF,gd,am,ak,ao,au,ar,aE,aj]at h;exact h
def q264:uAC:=veil (F264)
theorem OW:q264=F264:=ai _
def Ws:Tb:=Tb.addF Wq 264 S264 (q264)
theorem Wt:TbOk env (Ws):=aJ Wr 264 (by kernel_rfl) _ (OW)
def S248_9:LoopS:=⟨0,uF::ufP 0 0::ufS (.lit (.bool false))::uF::uF::uF::uF::utI::uAA 124 [],[(.dat false 187)],[⟨0,0,uT::uT::utS (.lit (.bool false))::uAB 129 [],[(.dat false 187)]⟩,⟨1,0,uT::uT::utS (.lit (.bool false))::uAB 129 [],[(.dat false 187)]⟩]⟩
def pL (p s:List D):Option (Sum (List D) (List D)):=aP env Ws 60 12 248 (bb 248 9) S248_9 p s
theorem RN (pd0:D) (sn0:Int):pL [pd0] [(D.int sn0)] =
 let x0:=aa pd0 3
 let x1:=Lr [ay x0 sn0]
 bif ab .lss sn0 (ae x0)then gd (aS x0 sn0)<|gd (ap x1)<|bif bU (aQ (ac x1 0))then ge pd0<|some (Sum.inr [.int 1])else ge pd0<|some (Sum.inl [.int (aM .add .i64 sn0 1)])else ge pd0<|some (Sum.inr [.int 0]):=by kernel_rfl
def Md:=by have h:= @RN;simp only[aF,gd,am,ak,ao,au,ar,aE,aj]at h;exact h
def Me:List D->uAC:=veil fun p s=>loW (pL p) s
theorem Cf:Me=fun p s=>loW (pL p) s:=ai _
def yK:Tb:=Tb.addL Ws 248 9 S248_9.n0 (bQ S248_9 (Me))
theorem Iq:TbOk env (yK):=aG Wt 248 9 (by kernel_rfl) _ (Cf)
def S248:FunS:=⟨[utD 187],[],[utB],[]⟩
def F248:uAC:=aO env yK 60 12 248 S248
theorem F248_e (sd0:D):F248 [sd0] =
 let x0:=ah (aa sd0 0)
 let x1:=q264 [.int x0]
 let x2:=aw (bU (aQ (ac x1 3))) true (ab .neq (ae (aa sd0 3)) (ah (ac x1 0)))
 let x3:=aQ (ac x1 1)
 let x4:=aB (aa sd0 2)
 let x5:=DS [.str x4]
 let x6:Option (List D):=some [.bool false]
 let x7:=ah (aa sd0 1)
 let x8:=ae (aa sd0 6)
 let x9:=Me [sd0] [.int 0]
 gd (ap x1)<|gd (aw x2 true (aw x3 (ap x5) true))<|bif aw (aw (aw (aw x2 true (aw x3 (bU (aQ (ac x5 0))) false)) true (aw (bU x3) (cI .neq x4 (ByteArray.mk #[])) false)) true (aw (bU (aQ (ac x1 2))) (ab .gtr (ae (aa sd0 4)) 0) false)) true (aw (ab .neq x0 6) (ab .gtr (ae (aa sd0 5)) 0) false)then x6 else bif aw (aw (aw (aw (ab .eql x0 2) (ab .neq x7 1) false) (ab .neq x7 2) false) (ab .neq x7 4) false) true (aw (ab .neq x0 2) (ab .neq x7 0) false)then x6 else bif aw (aw (ab .eql x0 9) (aw (ab .lss x8 1) true (ab .gtr x8 64)) false) true (aw (ab .neq x0 9) (ab .gtr x8 0) false)then x6 else gd (ap x9)<|bif ab .eql (ah (ac x9 0)) 0 then some [.bool true]else x6:=by kernel_rfl
def F248_eq:=by have h:= @F248_e;simp only[aF,gd,am,ak,ao,au,ar,aE,aj]at h;exact h
def q248:uAC:=veil (F248)
theorem OX:q248=F248:=ai _
def Wu:Tb:=Tb.addF yK 248 S248 (q248)
theorem Wv:TbOk env (Wu):=aJ Iq 248 (by kernel_rfl) _ (OX)
def S249_2:LoopS:=⟨0,ufR 299::ufI::⟨false, .str⟩::uF::uF::uF::ufS (.lit (.bool false))::utI::uAA 22 [],[],[⟨0,0,ufR 299::ufI::⟨false, .str⟩::uT::uT::uT::utS (.lit (.bool false))::uAB 23 [],[]⟩,⟨1,0,ufR 299::ufI::⟨false, .str⟩::uT::uT::uT::utS (.lit (.bool true))::uAB 23 [],[]⟩]⟩
def uN (p s:List D):Option (Sum (List D) (List D)):=aP env Wu 60 12 249 (bb 249 2) S249_2 p s
theorem RO (pd0:D) (pn1:Int) (ps2:ByteArray) (sn0:Int):uN [pd0,(D.int pn1),(D.str ps2)] [(D.int sn0)] =
 let x0:=aS pd0 sn0
 let x1:=aa (ay pd0 sn0) 0
 let x2:=ab .eql (ah (aa x1 0)) 13
 let x3:=D.int pn1
 let x4:=D.str ps2
 bif ab .lss sn0 pn1 then gd x0<|gd (aw x2 x0 true)<|bif aw x2 (cI .eql (aB (aa x1 2)) ps2) false then ge pd0<|ge x3<|ge x4<|some (Sum.inr [.int 1])else ge pd0<|ge x3<|ge x4<|some (Sum.inl [.int (aM .add .i64 sn0 1)])else ge pd0<|ge x3<|ge x4<|some (Sum.inr [.int 0]):=by kernel_rfl
def yL:=by have h:= @RO;simp only[aF,gd,am,ak,ao,au,ar,aE,aj]at h;exact h
def Eu:List D->uAC:=veil fun p s=>loW (uN p) s
theorem Cg:Eu=fun p s=>loW (uN p) s:=ai _
def yM:Tb:=Tb.addL Wu 249 2 S249_2.n0 (bQ S249_2 (Eu))
theorem Ir:TbOk env (yM):=aG Wv 249 2 (by kernel_rfl) _ (Cg)
def S249:FunS:=⟨[utR 299,utI,⟨true, .str⟩],[],[utB],[]⟩
def F249:uAC:=aO env yM 60 12 249 S249
theorem F249_eq (sd0:D) (sn1:Int) (ss2:ByteArray):F249 [sd0,(D.int sn1),(D.str ss2)] =
 bif (ap (Eu [sd0,(D.int sn1),(D.str ss2)] [(D.int 0)]))then
  bif (ab BinOp.eql (ah (ac (Eu [sd0,(D.int sn1),(D.str ss2)] [(D.int 0)]) 0)) 0)then
   some [(D.bool Bool.false)]
  else
   some [(D.bool Bool.true)]
 else
  none:=by kernel_rfl
def Ww:uAC:=veil (F249)
theorem OY:Ww=F249:=ai _
def Wx:Tb:=Tb.addF yM 249 S249 (Ww)
theorem Wy:TbOk env (Wx):=aJ Ir 249 (by kernel_rfl) _ (OY)
def S229_3:LoopS:=⟨0,uF::ufR 65::ufR 299::ufI::ufP 0 0::uF::uF::uF::ufZ::ufP 1 0::utI::uAA 104 [],[(.cells [ufI,ufI,⟨false, .str⟩,ufR 25,ufR 187,ufR 187,ufR 36]),(.dat false 197)],[⟨0,0,uT::ufR 65::ufR 299::ufI::utP 0 0::uT::uT::uT::utZ::utP 1 0::uAB 105 [],[(.cells [ufI,ufI,⟨false, .str⟩,ufR 25,ufR 187,ufR 187,ufR 36]),(.dat false 197)]⟩,⟨1,0,uT::ufR 65::ufR 299::ufI::uT::uT::uT::uT::utS (.lit (.int .i64 20))::uAB 106 [],[(.cells [ufI,ufI,⟨false, .str⟩,ufR 25,ufR 187,ufR 187,ufR 36]),(.dat false 197)]⟩]⟩
def uO (p s:List D):Option (Sum (List D) (List D)):=aP env Wx 60 12 229 (bb 229 3) S229_3 p s
theorem RP (pd0:D) (pd1:D) (pn2:Int) (pn3:Int) (pn4:Int) (ps5:ByteArray) (pd6:D) (pd7:D) (pd8:D) (pd9:D) (pd10:D) (sn0:Int):uO [pd0,pd1,(D.int pn2),(D.int pn3),(D.int pn4),(D.str ps5),pd6,pd7,pd8,pd9,pd10] [(D.int sn0)] =
 let x0:=Rd [ay pd6 sn0,.int 64]
 let x1:=D.int pn2
 let x2:=D.int pn3
 let x3:=D.int pn4
 let x4:=D.str ps5
 bif ab .lss sn0 (ae pd6)then gd (aS pd6 sn0)<|gd (ap x0)<|bif aQ (ac x0 0)then ge pd0<|ge pd1<|ge x1<|ge x2<|ge x3<|ge x4<|ge pd6<|ge pd7<|ge pd8<|ge pd9<|ge pd10<|some (Sum.inr [.int 1])else ge pd0<|ge pd1<|ge x1<|ge x2<|ge x3<|ge x4<|ge pd6<|ge pd7<|ge pd8<|ge pd9<|ge pd10<|some (Sum.inl [.int (aM .add .i64 sn0 1)])else ge pd0<|ge pd1<|ge x1<|ge x2<|ge x3<|ge x4<|ge pd6<|ge pd7<|ge pd8<|ge pd9<|ge pd10<|some (Sum.inr [.int 0]):=by kernel_rfl
def Mf:=by have h:= @RP;simp only[aF,gd,am,ak,ao,au,ar,aE,aj]at h;exact h
def Mg:List D->uAC:=veil fun p s=>loW (uO p) s
theorem Ch:Mg=fun p s=>loW (uO p) s:=ai _
def yN:Tb:=Tb.addL Wx 229 3 S229_3.n0 (bQ S229_3 (Mg))
theorem Is:TbOk env (yN):=aG Wy 229 3 (by kernel_rfl) _ (Ch)
def S229_10:LoopS:=⟨0,uF::ufR 65::ufR 299::ufI::ufP 0 0::uF::uF::uF::ufZ::ufP 1 0::uF::utI::uAA 103 [],[(.cells [ufI,ufI,⟨false, .str⟩,ufR 25,ufR 187,ufR 187,ufR 36]),(.dat false 197)],[⟨0,2,uT::ufR 65::ufR 299::ufI::utP 0 0::uT::uT::uT::utZ::utP 1 0::uAB 105 [],[(.cells [ufI,ufI,⟨false, .str⟩,ufR 25,ufR 187,ufR 187,ufR 36]),(.dat false 197)]⟩,⟨1,0,uT::ufR 65::ufR 299::ufI::uT::uT::uT::uT::utS (.lit (.int .i64 17))::uAB 106 [],[(.cells [ufI,ufI,⟨false, .str⟩,ufR 25,ufR 187,ufR 187,ufR 36]),(.dat false 197)]⟩]⟩
def pM (p s:List D):Option (Sum (List D) (List D)):=aP env yN 60 12 229 (bb 229 10) S229_10 p s
theorem Mh (pd0:D) (pd1:D) (pn2:Int) (pn3:Int) (pn4:Int) (ps5:ByteArray) (pd6:D) (pd7:D) (pd8:D) (pd9:D) (pd10:D) (sn0:Int):pM [pd0,pd1,(D.int pn2),(D.int pn3),(D.int pn4),(D.str ps5),pd6,pd7,pd8,pd9,pd10] [(D.int sn0)] =
 let x0:=Lv [ay pd6 sn0,pd0]
 let x1:=D.int pn2
 let x2:=D.int pn3
 let x3:=D.int pn4
 let x4:=D.str ps5
 bif ab .lss sn0 (ae pd6)then gd (aS pd6 sn0)<|gd (ap x0)<|bif bU (aQ (ac x0 0))then ge pd0<|ge pd1<|ge x1<|ge x2<|ge x3<|ge x4<|ge pd6<|ge pd7<|ge pd8<|ge pd9<|ge pd10<|some (Sum.inr [.int 1])else ge pd0<|ge pd1<|ge x1<|ge x2<|ge x3<|ge x4<|ge pd6<|ge pd7<|ge pd8<|ge pd9<|ge pd10<|some (Sum.inl [.int (aM .add .i64 sn0 1)])else ge pd0<|ge pd1<|ge x1<|ge x2<|ge x3<|ge x4<|ge pd6<|ge pd7<|ge pd8<|ge pd9<|ge pd10<|some (Sum.inr [.int 0]):=by kernel_rfl
def It:=by have h:= @Mh;simp only[aF,gd,am,ak,ao,au,ar,aE,aj]at h;exact h
def Ev:List D->uAC:=veil fun p s=>loW (pM p) s
theorem yO:Ev=fun p s=>loW (pM p) s:=ai _
def rE:Tb:=Tb.addL yN 229 10 S229_10.n0 (bQ S229_10 (Ev))
theorem Ew:TbOk env (rE):=aG Is 229 10 (by kernel_rfl) _ (yO)
def S229:FunS:=⟨[utD 197,utR 65,utR 299,utI],[],[utI],[]⟩
def F229:uAC:=aO env rE 60 12 229 S229
theorem F229_e (sd0:D) (sd1:D) (sd2:D) (sn3:Int):F229 [sd0,sd1,sd2,(D.int sn3)] =
 let x0:=aS sd2 sn3
 let x1:=ay sd2 sn3
 let x2:=aa x1 0
 let x3:=ah (aa x2 0)
 let x4:=D.int (ah (aa x2 1))
 let x5:=D.str (aB (aa x2 2))
 let x6:List D:=[sd1,sd2,.int sn3,.int x3,x4,x5,aa x2 3,aa x2 4,aa x2 5,aa x2 6,sd0]
 let x7:List D:=[.int 0]
 let x8:=Mg x6 x7
 let x9:=q248 [.agg [.int x3,x4,x5,aa x2 3,aa x2 4,aa x2 5,aa x2 6]]
 let x10:=Ev x6 x7
 let x11:=aw (ab .eql x3 1) true (ab .eql x3 3)
 let x12:=Lm [sd1,x5]
 let x13:Option (List D):=some [.int 17]
 let x14:=ab .eql x3 5
 let x15:=Wg [aa sd0 2,.int (ae (aa sd0 2)),x5]
 let x16:=ab .eql x3 12
 let x17:=Ww [sd2,.int (ae sd2),x5]
 let x18:=aw (ab .eql x3 10) true (ab .eql x3 11)
 let x19:=ab .eql x3 13
 let x20:=Ww [sd2,.int sn3,x5]
 gd x0<|gd (ap x8)<|bif ab .eql (ah (ac x8 0)) 0 then gd (ap x9)<|bif bU (aQ (ac x9 0))then some [.int 2]else gd (ap x10)<|bif ab .eql (ah (ac x10 0)) 0 then gd (aw x11 (ap x12) true)<|bif aw x11 (bU (aQ (ac x12 0))) false then x13 else gd (aw x14 (ap x15) true)<|bif aw x14 (bU (aQ (ac x15 0))) false then x13 else gd (aw x16 (ap x17) true)<|bif aw x16 (bU (aQ (ac x17 0))) false then x13 else gd (aw x18 x0 true)<|bif aw x18 (bU (aQ (aa x1 1))) false then some [.int 21]else gd (aw x19 (ap x20) true)<|bif aw x19 (aQ (ac x20 0)) false then some [.int 8]else some x7 else x13 else some [.int 20]:=by kernel_rfl
def F229_eq:=by have h:= @F229_e;simp only[aF,gd,am,ak,ao,au,ar,aE,aj]at h;exact h
def q229:uAC:=veil (F229)
theorem OZ:q229=F229:=ai _
def Wz:Tb:=Tb.addF rE 229 S229 (q229)
theorem WA:TbOk env (Wz):=aJ Ew 229 (by kernel_rfl) _ (OZ)
def S180_15:LoopS:=⟨0,uF::uF::ufP 0 0::uF::ufZ::uF::ufR 299::ufO 1 65::utI::uAA 48 [],[(.lst false 65),(.dat false 197)],[⟨0,0,uT::uT::uT::uT::utZ::uT::ufR 299::uAB 50 [],[(.lst false 65),(.dat false 197)]⟩,⟨1,0,uT::uT::uT::uT::utI::uT::ufR 299::uAB 50 [],[(.lst false 65),(.dat false 197)]⟩]⟩
def pN (p s:List D):Option (Sum (List D) (List D)):=aP env Wz 60 12 180 (bb 180 15) S180_15 p s
theorem Mi (pd0:D) (pd1:D) (pd2:D) (sn0:Int):pN [pd0,pd1,pd2] [(D.int sn0)] =
 let x0:=ab .eql (ae pd1) (ae pd1)
 let x1:=q229 [pd2,pd1,pd0,.int sn0]
 let x2:=ah (ac x1 0)
 bif ab .lss sn0 (ae pd0)then gd x0<|gd (ap x1)<|bif ab .neq x2 0 then ge pd0<|ge pd1<|ge pd2<|some (Sum.inr [.int 1,.int x2])else gd x0<|ge pd0<|ge pd1<|ge pd2<|some (Sum.inl [.int (aM .add .i64 sn0 1)])else ge pd0<|ge pd1<|ge pd2<|some (Sum.inr [.int 0]):=by kernel_rfl
def ti:=by have h:= @Mi;simp only[aF,gd,am,ak,ao,au,ar,aE,aj]at h;exact h
def Ex:List D->uAC:=veil fun p s=>loW (pN p) s
theorem yP:Ex=fun p s=>loW (pN p) s:=ai _
def rF:Tb:=Tb.addL Wz 180 15 S180_15.n0 (bQ S180_15 (Ex))
theorem Ey:TbOk env (rF):=aG WA 180 15 (by kernel_rfl) _ (yP)
def S180:FunS:=⟨[utD 197,utD 38],[],[utI],[]⟩
def F180:uAC:=aO env rF 60 12 180 S180
theorem F180_e (sd0:D) (sd1:D):F180 [sd0,sd1] =
 let x0:=aa sd1 1
 let x1:=aa sd0 0
 let x2:=ae x1
 let x3:Option (List D):=some [.int 6]
 let x4:=Wa [x1,x0]
 let x5:=ah (ac x4 0)
 let x6:=q227 [aa sd1 2,.int 65]
 let x7:=q228 [aa sd1 2,.bool false]
 let x8:=bG x1 x0
 let x9:=ae x8
 let x10:=Ex [ac x7 0,x8,sd0] [.int 0]
 bif ab .gtr (aM .add .i64 (ae x0) x2) 256 then x3 else gd (ap x4)<|bif ab .neq x5 0 then some [.int x5]else gd (ap x6)<|bif ab .gtr (ah (ac x6 0)) 64 then some [.int 20]else gd (ap x7)<|bif ab .gtr (ae (ac x7 0)) 1024 then x3 else gd (cA x2 88)<|gd (ab .eql x2 x2)<|gd (cA x9 88)<|gd (ab .eql x9 x9)<|gd (ap x10)<|bif ab .eql (ah (ac x10 0)) 0 then some [.int 0]else some [.int (ah (ac x10 1))]:=by kernel_rfl
def F180_eq:=by have h:= @F180_e;simp only[aF,gd,am,ak,ao,au,ar,aE,aj]at h;exact h
def WB:uAC:=veil (F180)
theorem O0:WB=F180:=ai _
def WC:Tb:=Tb.addF rF 180 S180 (WB)
theorem WD:TbOk env (WC):=aJ Ey 180 (by kernel_rfl) _ (O0)
def S120_12:LoopS:=⟨0,uF::ufP 0 0::ufZ::uF::utI::uAA 75 [],[(.dat false 197)],[⟨0,0,uT::utP 0 0::utZ::uAB 77 [],[(.dat false 197)]⟩,⟨1,0,uT::uT::utI::uAB 77 [],[(.dat false 197)]⟩]⟩
def pO (p s:List D):Option (Sum (List D) (List D)):=aP env WC 60 12 120 (bb 120 12) S120_12 p s
theorem Mj (pd0:D) (sn0:Int):pO [pd0] [(D.int sn0)] =
 let x0:=aa pd0 2
 let x1:=aS x0 sn0
 let x2:=D.str (aB (aa (ay x0 sn0) 0))
 let x3:=DS [x2]
 let x4:=Wg [x0,.int sn0,x2]
 bif ab .lss sn0 (ae x0)then gd x1<|gd (ap x3)<|bif bU (aQ (ac x3 0))then ge pd0<|some (Sum.inr [.int 1,.int 3])else gd x1<|gd (ap x4)<|bif aQ (ac x4 0)then ge pd0<|some (Sum.inr [.int 1,.int 8])else ge pd0<|some (Sum.inl [.int (aM .add .i64 sn0 1)])else ge pd0<|some (Sum.inr [.int 0]):=by kernel_rfl
def tj:=by have h:= @Mj;simp only[aF,gd,am,ak,ao,au,ar,aE,aj]at h;exact h
def Ez:List D->uAC:=veil fun p s=>loW (pO p) s
theorem yQ:Ez=fun p s=>loW (pO p) s:=ai _
def rG:Tb:=Tb.addL WC 120 12 S120_12.n0 (bQ S120_12 (Ez))
theorem EA:TbOk env (rG):=aG WD 120 12 (by kernel_rfl) _ (yQ)
def S120_19:LoopS:=⟨0,uF::ufP 0 0::ufZ::uF::uF::utI::uAA 74 [],[(.dat false 197)],[⟨0,2,uT::uT::utZ::uAB 77 [],[(.dat false 197)]⟩,⟨1,0,uT::uT::utI::uAB 77 [],[(.dat false 197)]⟩]⟩
def pP (p s:List D):Option (Sum (List D) (List D)):=aP env rG 60 12 120 (bb 120 19) S120_19 p s
theorem Mk (pd0:D) (sn0:Int):pP [pd0] [(D.int sn0)] =
 let x0:=aa pd0 2
 let x1:=WB [pd0,ay x0 sn0]
 let x2:=ah (ac x1 0)
 bif ab .lss sn0 (ae x0)then gd (aS x0 sn0)<|gd (ap x1)<|bif ab .neq x2 0 then ge pd0<|some (Sum.inr [.int 1,.int x2])else ge pd0<|some (Sum.inl [.int (aM .add .i64 sn0 1)])else ge pd0<|some (Sum.inr [.int 0]):=by kernel_rfl
def tm:=by have h:= @Mk;simp only[aF,gd,am,ak,ao,au,ar,aE,aj]at h;exact h
def EB:List D->uAC:=veil fun p s=>loW (pP p) s
theorem yR:EB=fun p s=>loW (pP p) s:=ai _
def rH:Tb:=Tb.addL rG 120 19 S120_19.n0 (bQ S120_19 (EB))
theorem EC:TbOk env (rH):=aG EA 120 19 (by kernel_rfl) _ (yR)
def S120:FunS:=⟨[utD 197],[],[utI],[]⟩
def F120:uAC:=aO env rH 60 12 120 S120
theorem F120_e (sd0:D):F120 [sd0] =
 let x0:=ae (aa sd0 2)
 let x1:=Wa [.list [],aa sd0 0]
 let x2:=ah (ac x1 0)
 let x3:=q178 [aa sd0 1]
 let x4:=ah (ac x3 0)
 let x5:List D:=[.int 0]
 let x6:=Ez [sd0] x5
 let x7:=EB [sd0] x5
 bif aw (aw (ab .gtr (ae (aa sd0 0)) 256) true (ab .gtr (ae (aa sd0 1)) 16)) true (ab .gtr x0 64)then some [.int 6]else bif ab .eql x0 0 then some [.int 17]else gd (ap x1)<|bif ab .neq x2 0 then some [.int x2]else gd (ap x3)<|bif ab .neq x4 0 then some [.int x4]else gd (ap x6)<|bif ab .eql (ah (ac x6 0)) 0 then gd (ap x7)<|bif ab .eql (ah (ac x7 0)) 0 then some x5 else some [.int (ah (ac x7 1))]else some [.int (ah (ac x6 1))]:=by kernel_rfl
def F120_eq:=by have h:= @F120_e;simp only[aF,gd,am,ak,ao,au,ar,aE,aj]at h;exact h
def q120:uAC:=veil (F120)
theorem O1:q120=F120:=ai _
def tn:Tb:=Tb.addF rH 120 S120 (q120)
theorem yS:TbOk env (tn):=aJ EC 120 (by kernel_rfl) _ (O1)
def S48:FunS:=⟨[utR 9],[],[utO 0 9],[(.lst true 9)]⟩
theorem run48n (c:Nat):jZ (it env tn 48) (gy env tn 60 12) 60 48 [.sc (.slice none 0 c)] (eV S48 [] []) (qV S48 [])=some [.list []]:=by
 have h:jZ (it env tn 48) (gy env tn 60 12) 60 48 [.sc (.slice none 0 c)] (eV S48 [] []) (qV S48 [])=bif ab BinOp.eql 0 (ae (D.list []))then some [.list []]else none:=by kernel_rfl
 rw[h,show ab BinOp.eql 0 (ae (D.list []))=true from ar []];rfl
theorem run48z (d:D):jZ (it env tn 48) (gy env tn 60 12) 60 48 [.rowz 9 d] (eV S48 [] []) (qV S48 []) =
 bif cA (ae (bG (D.list []) d)) 16 then(bif (ab BinOp.eql (ae (bG (D.list []) d)) (ae (bG (D.list []) d)))then some [bG (D.list []) d]else none)else none:=by kernel_rfl
def F48 (ds:List D):Option (List D):=bif cA (ae (bG (D.list []) (ds.headD .other))) 16 then some [bG (D.list []) (ds.headD .other)]else none
def q48:uAC:=veil F48
theorem WE:q48=F48:=ai _
theorem sound48:aH env.P 48 S48 q48:=by
 intro p s r hp hq lo w0 ρ E w vs inv ra;obtain rfl:p = []:=gh.1 hp;have ha:DD S48 [] s = [.rows 9 (s.headD .other)]:=by
  cases s<;>rfl
 have hh:eV S48 [] s=eV S48 [] []:=rfl;rw[WE]at hq;unfold F48 at hq;simp only[gj]at hq;rw[ha]at ra;generalize hd:s.headD .other=d at *;cases hm:cA (ae (bG (D.list []) d)) 16 with
 |false=>rw[hm]at hq;cases hq
 |true=>
  rw[hm]at hq;simp only[aj,aN]at hq;subst hq;rw[hh]at inv;generalize hvs:vs.toList=vl at ra;obtain⟨v,vl',rfl,rv,hn⟩:∃v vs',vl=v::vs'∧Rep ρ E w (AV.rows 9 d) v∧vs' = []:=by simpa only[RepL]using ra
  ·subst hn;simp only[Rep]at rv;obtain⟨a,cap,rfl,hc,hx⟩:=id rv;cases a with
   |none=>
    have he:d.toList = []:=by
     rcases hx with h|⟨_,_,h,_⟩
     ·exact h
     ·cases h
    have he':bG (D.list []) d = .list []:=by rw[mT];unfold D.app;rw[he];rfl
    rw[he'];refine uo (av:=[.sc (.slice none 0 cap)]) j8 yS 60 12 (run48n cap) rfl lo w0 ρ E w vs inv ?_
    rw[hvs,he];simp[RepL,Rep]
   |some a=>
    refine uo (av:=[.rowz 9 d]) j8 yS 60 12 (p:=[]) (r:=[bG (D.list []) d]) (S:=S48) (by rw[run48z,hm,ak];rfl) rfl lo w0 ρ E w vs inv ?_
    rw[hvs];simp only[RepL];exact⟨_,_,rfl,by simp only[Rep];exact⟨rv,_,_,_,rfl⟩,rfl⟩
def Iu:Tb:=Tb.addF tn 48 S48 q48
theorem ED:TbOk env Iu:=TbOk.addF yS (by kernel_rfl) sound48
def tV:FunS:=⟨[utR 65],[],[utO 0 65],[(.lst true 65)]⟩
theorem run218n (c:Nat):jZ (it env Iu 218) (gy env Iu 60 12) 60 218 [.sc (.slice none 0 c)] (eV tV [] []) (qV tV [])=some [.list []]:=by
 have h:jZ (it env Iu 218) (gy env Iu 60 12) 60 218 [.sc (.slice none 0 c)] (eV tV [] []) (qV tV [])=bif ab BinOp.eql 0 (ae (D.list []))then some [.list []]else none:=by kernel_rfl
 rw[h,show ab BinOp.eql 0 (ae (D.list []))=true from ar []];rfl
theorem run218z (d:D):jZ (it env Iu 218) (gy env Iu 60 12) 60 218 [.rowz 65 d] (eV tV [] []) (qV tV []) =
 bif cA (ae (bG (D.list []) d)) 88 then(bif (ab BinOp.eql (ae (bG (D.list []) d)) (ae (bG (D.list []) d)))then some [bG (D.list []) d]else none)else none:=by kernel_rfl
def F218 (ds:List D):Option (List D):=bif cA (ae (bG (D.list []) (ds.headD .other))) 88 then some [bG (D.list []) (ds.headD .other)]else none
def Iv:uAC:=veil F218
theorem O2:Iv=F218:=ai _
theorem WF:aH env.P 218 tV Iv:=by
 intro p s r hp hq lo w0 ρ E w vs inv ra;obtain rfl:p = []:=gh.1 hp;have ha:DD tV [] s = [.rows 65 (s.headD .other)]:=by
  cases s<;>rfl
 have hh:eV tV [] s=eV tV [] []:=rfl;rw[O2]at hq;unfold F218 at hq;simp only[gj]at hq;rw[ha]at ra;generalize hd:s.headD .other=d at *;cases hm:cA (ae (bG (D.list []) d)) 88 with
 |false=>rw[hm]at hq;cases hq
 |true=>
  rw[hm]at hq;simp only[aj,aN]at hq;subst hq;rw[hh]at inv;generalize hvs:vs.toList=vl at ra;obtain⟨v,vl',rfl,rv,hn⟩:∃v vs',vl=v::vs'∧Rep ρ E w (AV.rows 65 d) v∧vs' = []:=by simpa only[RepL]using ra
  ·subst hn;simp only[Rep]at rv;obtain⟨a,cap,rfl,hc,hx⟩:=id rv;cases a with
   |none=>
    have he:d.toList = []:=by
     rcases hx with h|⟨_,_,h,_⟩
     ·exact h
     ·cases h
    have he':bG (D.list []) d = .list []:=by rw[mT];unfold D.app;rw[he];rfl
    rw[he'];refine uo (av:=[.sc (.slice none 0 cap)]) j8 ED 60 12 (run218n cap) rfl lo w0 ρ E w vs inv ?_
    rw[hvs,he];simp[RepL,Rep]
   |some a=>
    refine uo (av:=[.rowz 65 d]) j8 ED 60 12 (p:=[]) (r:=[bG (D.list []) d]) (S:=tV) (by rw[run218z,hm,ak];rfl) rfl lo w0 ρ E w vs inv ?_
    rw[hvs];simp only[RepL];exact⟨_,_,rfl,by simp only[Rep];exact⟨rv,_,_,_,rfl⟩,rfl⟩
def WG:Tb:=Tb.addF Iu 218 tV Iv
theorem WH:TbOk env WG:=TbOk.addF ED (by kernel_rfl) WF
def S116_2:LoopS:=⟨0,ufR 9::⟨false, .str⟩::uF::uF::ufZ::uF::uF::ufI::utI::uAA 10 [],[],[⟨0,0,ufR 9::⟨false, .str⟩::uT::uT::utZ::uT::uT::ufI::uAB 11 [],[]⟩,⟨1,0,ufR 9::⟨false, .str⟩::uT::uT::utI::uT::uT::ufI::uAB 11 [],[]⟩]⟩
def pQ (p s:List D):Option (Sum (List D) (List D)):=aP env WG 60 12 116 (bb 116 2) S116_2 p s
theorem RR (pd0:D) (ps1:ByteArray) (pn2:Int) (sn0:Int):pQ [pd0,(D.str ps1),(D.int pn2)] [(D.int sn0)] =
 let x0:=D.str ps1
 let x1:=D.int pn2
 bif ab .lss sn0 pn2 then gd (aS pd0 sn0)<|bif cI .eql ps1 (aB (ay pd0 sn0))then ge pd0<|ge x0<|ge x1<|some (Sum.inr [.int 1,.int sn0])else ge pd0<|ge x0<|ge x1<|some (Sum.inl [.int (aM .add .i64 sn0 1)])else ge pd0<|ge x0<|ge x1<|some (Sum.inr [.int 0]):=by kernel_rfl
def yU:=by have h:= @RR;simp only[aF,gd,am,ak,ao,au,ar,aE,aj]at h;exact h
def Ml:List D->uAC:=veil fun p s=>loW (pQ p) s
theorem Ci:Ml=fun p s=>loW (pQ p) s:=ai _
def yV:Tb:=Tb.addL WG 116 2 S116_2.n0 (bQ S116_2 (Ml))
theorem Iw:TbOk env (yV):=aG WH 116 2 (by kernel_rfl) _ (Ci)
def S116:FunS:=⟨[utR 9,⟨true, .str⟩],[],[utI],[]⟩
def F116:uAC:=aO env yV 60 12 116 S116
theorem F116_e (sd0:D) (ss1:ByteArray):F116 [sd0,(D.str ss1)] =
 let y0:=Ml [sd0,(.str ss1),(.int (ae sd0))] [(.int 0)]
 gd (ap y0)<|bif ab .eql (ah (ac y0 0)) 0 then some [.int (-1)]else some [.int (ah (ac y0 1))]:=by kernel_rfl
def F116_eq:=by have h:= @F116_e;simp only[aF,gd,am,ak,ao,au,ar,aE,aj]at h;exact h
def A3:uAC:=veil (F116)
theorem O3:A3=F116:=ai _
def WI:Tb:=Tb.addF yV 116 S116 (A3)
theorem WJ:TbOk env (WI):=aJ Iw 116 (by kernel_rfl) _ (O3)
def S113:FunS:=⟨[utR 9,⟨true, .str⟩],[],[utB],[]⟩
def F113:uAC:=aO env WI 60 12 113 S113
theorem F113_e (sd0:D) (ss1:ByteArray):F113 [sd0,(D.str ss1)] =
 let y0:=ap (A3 [sd0,(.str ss1)])
 let y1:=ac (A3 [sd0,(.str ss1)]) 0
 gd y0<|some [.bool (ab .geq (ah y1) 0)]:=by kernel_rfl
def F113_eq:=by have h:= @F113_e;simp only[aF,gd,am,ak,ao,au,ar,aE,aj]at h;exact h
def Ix:uAC:=veil (F113)
theorem O4:Ix=F113:=ai _
def WK:Tb:=Tb.addF WI 113 S113 (Ix)
theorem WL:TbOk env (WK):=aJ WJ 113 (by kernel_rfl) _ (O4)
def S168_3:LoopS:=⟨0,uF::uF::uF::uF::ufZ::ufO 0 65::uAA 5 (ufR 65::ufI::utI::uAA 25 []),[(.lst true 65)],[⟨0,0,uT::uT::uT::uT::utZ::uAB 6 (ufR 65::ufI::uAB 26 []),[.skip]⟩,⟨1,0,uT::uT::uT::uT::utI::uAB 6 (ufR 65::ufI::uAB 26 []),[.skip]⟩]⟩
def uP (p s:List D):Option (Sum (List D) (List D)):=aP env WK 60 12 168 (bb 168 3) S168_3 p s
theorem RT (pd0:D) (pn1:Int) (sn0:Int) (sd1:D):uP [pd0,(D.int pn1)] [(D.int sn0),sd1] =
 let y0:=AX [(.str (aB (aa (ay pd0 sn0) 0)))]
 let y1:=Rk [(.str (aB (aa (ay pd0 sn0) 0))),sd1]
 let y2:=VN [(.agg [(.int (ah (aa (aa (ay pd0 sn0) 1) 0))),(.int (ah (aa (aa (ay pd0 sn0) 1) 1))),(.int (ah (aa (aa (ay pd0 sn0) 1) 2))),(aa (aa (ay pd0 sn0) 1) 3),(aa (aa (ay pd0 sn0) 1) 4)])]
 let y3:=bG sd1 (.list [(.agg [(.str (aB (aa (ay pd0 sn0) 0))),(.agg [(.int (ah (aa (aa (ay pd0 sn0) 1) 0))),(.int (ah (aa (aa (ay pd0 sn0) 1) 1))),(.int (ah (aa (aa (ay pd0 sn0) 1) 2))),(aa (aa (ay pd0 sn0) 1) 3),(aa (aa (ay pd0 sn0) 1) 4)])])])
 let x0:=D.int pn1
 let x1:=D.int 1
 let x2:=ab .eql (ae sd1) (ae sd1)
 let x3:=ah (ac y2 0)
 let x4:=ae y3
 bif ab .lss sn0 pn1 then gd (aS pd0 sn0)<|gd (ap y0)<|bif bU (aQ (ac y0 0))then ge pd0<|ge x0<|some (Sum.inr [x1,.int 3])else gd x2<|gd (ap y1)<|ge (ay pd0 sn0)<|bif aQ (ac y1 0)then ge pd0<|ge x0<|some (Sum.inr [x1,.int 8])else gd (ap y2)<|bif ab .neq x3 0 then ge pd0<|ge x0<|some (Sum.inr [x1,.int x3])else gd x2<|gd (cA x4 88)<|gd (ab .eql x4 x4)<|ge pd0<|ge x0<|some (Sum.inl [.int (aM .add .i64 sn0 1),y3])else ge pd0<|ge x0<|some (Sum.inr [.int 0]):=by kernel_rfl
def yW:=by have h:= @RT;simp only[aF,gd,am,ak,ao,au,ar,aE,aj]at h;exact h
def Mm:List D->uAC:=veil fun p s=>loW (uP p) s
theorem Cj:Mm=fun p s=>loW (uP p) s:=ai _
def yX:Tb:=Tb.addL WK 168 3 S168_3.n0 (bQ S168_3 (Mm))
theorem Iy:TbOk env (yX):=aG WL 168 3 (by kernel_rfl) _ (Cj)
def S168:FunS:=⟨[utR 65,utR 65],[],[utI],[]⟩
def F168:uAC:=aO env yX 60 12 168 S168
theorem F168_e (sd0:D) (sd1:D):F168 [sd0,sd1] =
 let y0:=ab .eql (ae (ac (Iv [sd0]) 0)) (ae (ac (Iv [sd0]) 0))
 let y1:=Mm [sd1,(.int (ae sd1))] [(.int 0),(ac (Iv [sd0]) 0)]
 gd (ap (Iv [sd0]))<|gd y0<|gd (ap y1)<|bif ab .eql (ah (ac y1 0)) 0 then some [.int 0]else some [.int (ah (ac y1 1))]:=by kernel_rfl
def F168_eq:=by have h:= @F168_e;simp only[aF,gd,am,ak,ao,au,ar,aE,aj]at h;exact h
def WM:uAC:=veil (F168)
theorem O5:WM=F168:=ai _
def WN:Tb:=Tb.addF yX 168 S168 (WM)
theorem WO:TbOk env (WN):=aJ Iy 168 (by kernel_rfl) _ (O5)
def S278:FunS:=⟨[utN,utI],[],[utS (.oslc 0 36)],[(.lst true 36)]⟩
def F278:uAC:=aO env WN 60 12 278 S278
theorem F278_e (sn0:Int):F278 [(D.int sn0)] =
 let y0:=dr (J9 (aM .sub .i64 sn0 0) (.list [])) 0 0
 let x0:=aM .sub .i64 sn0 0
 bif ab .lss sn0 0 then none else bif ab .gtr x0 0 then gd (ab .lss 0 x0)<|gd (cA x0 24)<|gd (ab .leq 0 0)<|gd (ab .leq 0 x0)<|gd (ab .eql 0 (ae y0))<|some [y0]else gd (ab .eql 0 (ae (.list [])))<|some [.list []]:=by kernel_rfl
def F278_eq:=by have h:= @F278_e;simp only[aF,gd,am,ak,ao,au,ar,aE,aj]at h;exact h
def q278:uAC:=veil (F278)
theorem O6:q278=F278:=ai _
def WP:Tb:=Tb.addF WN 278 S278 (q278)
theorem WQ:TbOk env (WP):=aJ WO 278 (by kernel_rfl) _ (O6)
def S240:FunS:=⟨[utD 187],[],[utR 36],[]⟩
def F240:uAC:=aO env WP 60 12 240 S240
theorem F240_e (sd0:D):F240 [sd0] =
 let y0:=ab .lss (aM .add .i64 2 (ae (aa sd0 6))) 0
 let y1:=q278 [(.int (aM .add .i64 2 (ae (aa sd0 6))))]
 let y2:=ae (bG (ac y1 0) (.list [(aa sd0 4),(aa sd0 5)]))
 let y3:=bG (bG (ac y1 0) (.list [(aa sd0 4),(aa sd0 5)])) (aa sd0 6)
 let x0:=ae (ac y1 0)
 let x1:=ae y3
 bif y0 then none else gd (ap y1)<|gd (ab .eql x0 x0)<|gd (cA y2 24)<|gd (ab .eql y2 y2)<|gd (cA x1 24)<|gd (ab .eql x1 x1)<|some [y3]:=by kernel_rfl
def F240_eq:=by have h:= @F240_e;simp only[aF,gd,am,ak,ao,au,ar,aE,aj]at h;exact h
def Mn:uAC:=veil (F240)
theorem O7:Mn=F240:=ai _
def WR:Tb:=Tb.addF WP 240 S240 (Mn)
theorem Iz:TbOk env (WR):=aJ WQ 240 (by kernel_rfl) _ (O7)
def Mo:FunS:=⟨[utR 187],[],[utI],[]⟩
def Mp (Q:uAC):Tb:=Tb.addF WR 221 Mo Q
theorem RU (Q:uAC) (hQ:aH env.P 221 Mo Q):TbOk env (Mp Q):=TbOk.addF Iz (by kernel_rfl) hQ
def S221_7:LoopS:=⟨0,uF::uF::ufZ::ufI::uF::uF::utI::uF::uF::ufR 187::ufI::ufI::uF::uF::uF::uF::ufR 36::ufI::utI::uAA 14 [],[],[⟨0,2,uT::uT::utZ::ufI::uT::uT::utI::uT::uT::ufR 187::ufI::ufI::uT::uT::uT::uT::ufR 36::ufI::uAB 15 [],[]⟩]⟩
def uQ (Q:uAC) (p s:List D):Option (Sum (List D) (List D)):=aP env (Mp Q) 60 12 221 (bb 221 7) S221_7 p s
theorem RV (Q:uAC) (pn0:Int) (pd1:D) (pn2:Int) (pn3:Int) (pd4:D) (pn5:Int) (sn0:Int) (sn1:Int):uQ Q [(D.int pn0),pd1,(D.int pn2),(D.int pn3),pd4,(D.int pn5)] [(D.int sn0),(D.int sn1)] =
 let y0:=aM .add .i64 1 (ah (ac (Q [(ay pd4 sn1)]) 0))
 bif ab .lss sn1 pn5 then gd (aS pd4 sn1)<|gd (ap (Q [ay pd4 sn1]))<|ge (.int pn0)<|ge pd1<|ge (.int pn2)<|ge (.int pn3)<|ge pd4<|ge (.int pn5)<|some (Sum.inl [.int (qmm .gtr sn0 y0),.int (aM .add .i64 sn1 1)])else ge (.int pn0)<|ge pd1<|ge (.int pn2)<|ge (.int pn3)<|ge pd4<|ge (.int pn5)<|some (Sum.inr [.int 0,.int sn0]):=by kernel_rfl
def yY:=by have h:= @RV;simp only[aF,gd,am,ak,ao,au,ar,aE,aj]at h;exact h
def EE (Q:uAC):List D->uAC:=veil fun p s=>loW (uQ Q p) s
theorem Ck (Q:uAC):EE Q=fun p s=>loW (uQ Q p) s:=ai _
def yZ (Q:uAC):Tb:=Tb.addL (Mp Q) 221 7 S221_7.n0 (bQ S221_7 (EE Q))
theorem IA (Q:uAC) (hQ:aH env.P 221 Mo Q):TbOk env (yZ Q):=aG (RU Q hQ) 221 7 (by kernel_rfl) _ (Ck Q)
def S221_3:LoopS:=⟨0,uF::uF::ufZ::utI::uAA 5 (ufR 187::ufI::utI::uAA 21 []),[],[⟨0,0,uT::uT::utZ::utI::uAB 5 (ufR 187::ufI::uAB 22 []),[]⟩]⟩
def uR (Q:uAC) (p s:List D):Option (Sum (List D) (List D)):=aP env (yZ Q) 60 12 221 (bb 221 3) S221_3 p s
theorem RX (Q:uAC) (pd0:D) (pn1:Int) (sn0:Int) (sn1:Int):uR Q [pd0,(D.int pn1)] [(D.int sn0),(D.int sn1)] =
 let y0:=ac (Mn [(ay pd0 sn1)]) 0
 let y1:=EE Q [(.int sn0),pd0,(.int pn1),(.int sn1),y0,(.int (ae y0))] [(.int 1),(.int 0)]
 bif ab .lss sn1 pn1 then gd (aS pd0 sn1)<|gd (ap (Mn [ay pd0 sn1]))<|gd (ap y1)<|ge pd0<|ge (.int pn1)<|some (Sum.inl [.int (qmm .gtr sn0 (ah (ac y1 1))),.int (aM .add .i64 sn1 1)])else ge pd0<|ge (.int pn1)<|some (Sum.inr [.int 0,.int sn0]):=by kernel_rfl
def za:=by have h:= @RX;simp only[aF,gd,am,ak,ao,au,ar,aE,aj]at h;exact h
def Mq (Q:uAC):List D->uAC:=veil fun p s=>loW (uR Q p) s
theorem Cl (Q:uAC):Mq Q=fun p s=>loW (uR Q p) s:=ai _
def zb (Q:uAC):Tb:=Tb.addL (yZ Q) 221 3 S221_3.n0 (bQ S221_3 (Mq Q))
theorem IB (Q:uAC) (hQ:aH env.P 221 Mo Q):TbOk env (zb Q):=aG (IA Q hQ) 221 3 (by kernel_rfl) _ (Cl Q)
def WS (Q:uAC):uAC:=aO env (zb Q) 60 12 221 Mo
theorem Fb221_e (Q:uAC) (sd0:D):WS Q [sd0] =
 let y0:=Mq Q [sd0,(.int (ae sd0))] [(.int 0),(.int 0)]
 gd (ap y0)<|some [.int (ah (ac y0 1))]:=by kernel_rfl
def WT:=by have h:= @Fb221_e;simp only[aF,gd,am,ak,ao,au,ar,aE,aj]at h;exact h
def IC:Nat->uAC:=levels WS
theorem F221_s (n:Nat):IC (n+1)=WS (IC n):=rfl
def WU:uAC:=veil fun ds=>IC (aY ds) ds
theorem O8:WU=fun ds=>IC (aY ds) ds:=ai _
theorem WV:aH env.P 221 Mo WU:=gM (fun q=>zb q) (fun q hq=>IB q hq) O8
def WW:Tb:=Tb.addF WR 221 Mo WU
theorem ID:TbOk env WW:=TbOk.addF Iz (by kernel_rfl) WV
def Mr:FunS:=⟨[utR 187,utB],[],[utR 278],[]⟩
def Ms (Q:uAC):Tb:=Tb.addF WW 222 Mr Q
theorem RY (Q:uAC) (hQ:aH env.P 222 Mr Q):TbOk env (Ms Q):=TbOk.addF ID (by kernel_rfl) hQ
def S222_7:LoopS:=⟨0,uF::ufB::uF::uF::ufN::ufO 0 278::uF::ufP 1 0::uF::uF::ufR 187::ufI::ufI::uAA 10 (ufR 36::ufI::utI::uAA 21 []),[(.dat false 187),(.lst true 278)],[⟨0,2,uT::ufB::uT::uT::utN::utO 0 278::uT::uT::uT::uT::ufR 187::ufI::ufI::uAB 10 (ufR 36::ufI::uAB 22 []),[(.dat false 187),(.lst true 278)]⟩]⟩
def uS (Q:uAC) (p s:List D):Option (Sum (List D) (List D)):=aP env (Ms Q) 60 12 222 (bb 222 7) S222_7 p s
theorem RZ (Q:uAC) (pb0:Bool) (pd1:D) (pn2:Int) (pn3:Int) (pd4:D) (pn5:Int) (pd6:D) (sn0:Int) (sd1:D):uS Q [(D.bool pb0),pd1,(D.int pn2),(D.int pn3),pd4,(D.int pn5),pd6] [(D.int sn0),sd1] =
 let y0:=ae (bG sd1 (ac (Q [(ay pd4 sn0),(.bool true)]) 0))
 let y1:=ap (Q [(ay pd4 sn0),(.bool (ab .eql (ah (aa pd6 0)) 8))])
 let y2:=ac (Q [(ay pd4 sn0),(.bool (ab .eql (ah (aa pd6 0)) 8))]) 0
 let x0:=Q [ay pd4 sn0,.bool true]
 let x1:=ab .eql (ae sd1) (ae sd1)
 let x2:=D.bool pb0
 let x3:=D.int pn2
 let x4:=D.int pn3
 let x5:=D.int pn5
 let x6:=D.int (aM .add .i64 sn0 1)
 let x7:Option (List D ⊕ List D):=gd (ap x0)<|gd x1<|gd (cA y0 136)<|gd (ab .eql y0 y0)<|ge x2<|ge pd1<|ge x3<|ge x4<|ge pd4<|ge x5<|ge pd6<|some (Sum.inl [x6,bG sd1 (ac x0 0)])
 let x8:=ae (bG sd1 y2)
 bif ab .lss sn0 pn5 then gd (aS pd4 sn0)<|bif pb0 then x7 else bif ab .eql (ah (aa pd6 0)) 7 then x7 else gd y1<|gd x1<|gd (cA x8 136)<|gd (ab .eql x8 x8)<|ge x2<|ge pd1<|ge x3<|ge x4<|ge pd4<|ge x5<|ge pd6<|some (Sum.inl [x6,bG sd1 y2])else gd x1<|ge x2<|ge pd1<|ge x3<|ge x4<|ge pd4<|ge x5<|ge pd6<|some (Sum.inr [.int 0,sd1]):=by kernel_rfl
def zc:=by have h:= @RZ;simp only[aF,gd,am,ak,ao,au,ar,aE,aj]at h;exact h
def EF (Q:uAC):List D->uAC:=veil fun p s=>loW (uS Q p) s
theorem Cm (Q:uAC):EF Q=fun p s=>loW (uS Q p) s:=ai _
def ze (Q:uAC):Tb:=Tb.addL (Ms Q) 222 7 S222_7.n0 (bQ S222_7 (EF Q))
theorem IE (Q:uAC) (hQ:aH env.P 222 Mr Q):TbOk env (ze Q):=aG (RY Q hQ) 222 7 (by kernel_rfl) _ (Cm Q)
def S222_3:LoopS:=⟨0,uF::ufB::uF::uF::ufN::ufO 0 278::uF::uF::uF::uF::ufR 187::ufI::utI::uAA 34 [],[(.lst true 278)],[⟨0,0,uT::ufB::uT::uT::utN::utO 0 278::uT::uT::uT::uT::ufR 187::ufI::uAB 35 [],[(.lst true 278)]⟩]⟩
def uU (Q:uAC) (p s:List D):Option (Sum (List D) (List D)):=aP env (ze Q) 60 12 222 (bb 222 3) S222_3 p s
theorem R0 (Q:uAC) (pb0:Bool) (pd1:D) (pn2:Int) (sn0:Int) (sd1:D):uU Q [(D.bool pb0),pd1,(D.int pn2)] [(D.int sn0),sd1] =
 let y0:=bG sd1 (.list [(.agg [(.agg [(.int (ah (aa (ay pd1 sn0) 0))),(.int (ah (aa (ay pd1 sn0) 1))),(.str (aB (aa (ay pd1 sn0) 2))),(aa (ay pd1 sn0) 3),(aa (ay pd1 sn0) 4),(aa (ay pd1 sn0) 5),(aa (ay pd1 sn0) 6)]),(.bool pb0)])])
 let y1:=ac (Mn [(ay pd1 sn0)]) 0
 let y2:=EF Q [(.bool pb0),pd1,(.int pn2),(.int sn0),y1,(.int (ae y1)),(ay pd1 sn0)] [(.int 0),y0]
 let x0:=ab .eql (ae sd1) (ae sd1)
 let x1:=ae y0
 bif ab .lss sn0 pn2 then gd (aS pd1 sn0)<|gd x0<|gd (cA x1 136)<|gd (ap (Mn [ay pd1 sn0]))<|gd (ab .eql x1 x1)<|gd (ap y2)<|gd (ab .eql (ae (ac y2 1)) (ae (ac y2 1)))<|ge (.bool pb0)<|ge pd1<|ge (.int pn2)<|some (Sum.inl [.int (aM .add .i64 sn0 1),ac y2 1])else gd x0<|ge (.bool pb0)<|ge pd1<|ge (.int pn2)<|some (Sum.inr [.int 0,sd1]):=by kernel_rfl
def zf:=by have h:= @R0;simp only[aF,gd,am,ak,ao,au,ar,aE,aj]at h;exact h
def Mt (Q:uAC):List D->uAC:=veil fun p s=>loW (uU Q p) s
theorem Cn (Q:uAC):Mt Q=fun p s=>loW (uU Q p) s:=ai _
def zg (Q:uAC):Tb:=Tb.addL (ze Q) 222 3 S222_3.n0 (bQ S222_3 (Mt Q))
theorem IF (Q:uAC) (hQ:aH env.P 222 Mr Q):TbOk env (zg Q):=aG (IE Q hQ) 222 3 (by kernel_rfl) _ (Cn Q)
def WX (Q:uAC):uAC:=aO env (zg Q) 60 12 222 Mr
theorem Fb222_e (Q:uAC) (sd0:D) (sb1:Bool):WX Q [sd0,(D.bool sb1)] =
 let y0:=Mt Q [(.bool sb1),sd0,(.int (ae sd0))] [(.int 0),(.list [])]
 gd (ab .eql 0 (ae (.list [])))<|gd (ap y0)<|gd (ab .eql (ae (ac y0 1)) (ae (ac y0 1)))<|some [ac y0 1]:=by kernel_rfl
def WY:=by have h:= @Fb222_e;simp only[aF,gd,am,ak,ao,au,ar,aE,aj]at h;exact h
def IG:Nat->uAC:=levels WX
theorem F222_s (n:Nat):IG (n+1)=WX (IG n):=rfl
def q222:uAC:=veil fun ds=>IG (aY ds) ds
theorem O9:q222=fun ds=>IG (aY ds) ds:=ai _
theorem WZ:aH env.P 222 Mr q222:=gM (fun q=>zg q) (fun q hq=>IF q hq) O9
def W0:Tb:=Tb.addF WW 222 Mr q222
theorem W1:TbOk env W0:=TbOk.addF ID (by kernel_rfl) WZ
def IH:FunS:=⟨[utD 162,utS (.edat 162)],[],[utB],[]⟩
def zh:uAC:=aO env W0 60 12 220 IH
theorem II (sd0:D) (sd1:D):zh [sd0,sd1] =
 some [(D.bool (cI BinOp.eql (aB (aa sd0 0)) (aB (aa sd1 0))))]:=by kernel_rfl
def pR:uAC:=veil (zh)
theorem tp:pR=zh:=ai _
def rI:Tb:=Tb.addF W0 220 IH (pR)
theorem EG:TbOk env (rI):=aJ W1 220 (by kernel_rfl) _ (tp)
def S204_220_2:LoopS:=⟨0,ufR 162::ufS (.func 220 [] [(.edat 162)])::uF::uF::ufZ::uF::uF::ufI::utI::uAA 10 [],[],[⟨0,0,ufR 162::ufS (.func 220 [] [(.edat 162)])::uT::uT::utZ::uT::uT::ufI::uAB 11 [],[]⟩,⟨1,0,ufR 162::ufS (.func 220 [] [(.edat 162)])::uT::uT::utI::uT::uT::ufI::uAB 11 [],[]⟩]⟩
def jg (p s:List D):Option (Sum (List D) (List D)):=aP env rI 60 12 204 (bb 204 2) S204_220_2 p s
theorem A4 (pd0:D) (pd1:D) (pn2:Int) (sn0:Int):jg [pd0,pd1,(D.int pn2)] [(D.int sn0)] =
 let y0:=pR [(ay pd0 sn0),pd1]
 let x0:=D.int pn2
 bif ab .lss sn0 pn2 then gd (aS pd0 sn0)<|gd (ap y0)<|bif aQ (ac y0 0)then ge pd0<|ge pd1<|ge x0<|some (Sum.inr [.int 1,.int sn0])else ge pd0<|ge pd1<|ge x0<|some (Sum.inl [.int (aM .add .i64 sn0 1)])else ge pd0<|ge pd1<|ge x0<|some (Sum.inr [.int 0]):=by kernel_rfl
def zi:=by have h:= @A4;simp only[aF,gd,am,ak,ao,au,ar,aE,aj]at h;exact h
def oo:List D->uAC:=veil fun p s=>loW (jg p) s
theorem nC:oo=fun p s=>loW (jg p) s:=ai _
def kV:Tb:=Tb.addL rI 204 2 S204_220_2.n0 (bQ S204_220_2 (oo))
theorem tW:TbOk env (kV):=aG EG 204 2 (by kernel_rfl) _ (nC)
def IJ:FunS:=⟨[utR 162,utS (.func 220 [] [(.edat 162)])],[],[utI],[]⟩
def zj:uAC:=aO env kV 60 12 204 IJ
theorem Mu (sd0:D) (sd1:D):zj [sd0,sd1] =
 let y0:=oo [sd0,sd1,(.int (ae sd0))] [(.int 0)]
 gd (ap y0)<|bif ab .eql (ah (ac y0 0)) 0 then some [.int (-1)]else some [.int (ah (ac y0 1))]:=by kernel_rfl
def IK:=by have h:= @Mu;simp only[aF,gd,am,ak,ao,au,ar,aE,aj]at h;exact h
def pS:uAC:=veil (zj)
theorem tq:pS=zj:=ai _
def rJ:Tb:=Tb.addF kV 204 IJ (pS)
theorem EH:TbOk env (rJ):=aJ tW 204 (by kernel_rfl) _ (tq)
def IL:FunS:=⟨[utR 162,utS (.func 220 [] [(.edat 162)])],[],[utB],[]⟩
def zk:uAC:=aO env rJ 60 12 145 IL
theorem Mv (sd0:D) (sd1:D):zk [sd0,sd1] =
 let y0:=ah (ac (pS [sd0,sd1]) 0)
 gd (ap (pS [sd0,sd1]))<|some [.bool (ab .geq y0 0)]:=by kernel_rfl
def IM:=by have h:= @Mv;simp only[aF,gd,am,ak,ao,au,ar,aE,aj]at h;exact h
def pT:uAC:=veil (zk)
theorem tt:pT=zk:=ai _
def rK:Tb:=Tb.addF rJ 145 IL (pT)
theorem EI:TbOk env (rK):=aJ EH 145 (by kernel_rfl) _ (tt)
def S169_2:LoopS:=⟨0,ufR 162::uF::ufZ::uF::uF::ufR 162::ufI::utI::uAA 21 [],[],[⟨0,0,ufR 162::uT::utZ::uT::uT::ufR 162::ufI::uAB 22 [],[]⟩,⟨1,0,ufR 162::uT::utI::uT::uT::ufR 162::ufI::uAB 22 [],[]⟩]⟩
def uV (p s:List D):Option (Sum (List D) (List D)):=aP env rK 60 12 169 (bb 169 2) S169_2 p s
theorem R1 (pd0:D) (pd1:D) (pn2:Int) (sn0:Int):uV [pd0,pd1,(D.int pn2)] [(D.int sn0)] =
 let y0:=AX [(.str (aB (aa (ay pd1 sn0) 0)))]
 let y1:=pT [(dr pd0 0 sn0),(ay pd1 sn0)]
 let x0:=D.int pn2
 let x1:=D.int 1
 bif ab .lss sn0 pn2 then gd (aS pd1 sn0)<|gd (ap y0)<|bif bU (aQ (ac y0 0))then ge pd0<|ge pd1<|ge x0<|some (Sum.inr [x1,.int 3])else gd (ab .leq 0 0)<|gd (ab .leq 0 sn0)<|gd (ab .leq sn0 (ae pd0))<|gd (ap y1)<|bif aQ (ac y1 0)then ge pd0<|ge pd1<|ge x0<|some (Sum.inr [x1,.int 8])else bif ab .gtr (ae (aa (ay pd1 sn0) 2)) 65536 then ge pd0<|ge pd1<|ge x0<|some (Sum.inr [x1,.int 6])else ge pd0<|ge pd1<|ge x0<|some (Sum.inl [.int (aM .add .i64 sn0 1)])else ge pd0<|ge pd1<|ge x0<|some (Sum.inr [.int 0]):=by kernel_rfl
def zl:=by have h:= @R1;simp only[aF,gd,am,ak,ao,au,ar,aE,aj]at h;exact h
def Mw:List D->uAC:=veil fun p s=>loW (uV p) s
theorem Co:Mw=fun p s=>loW (uV p) s:=ai _
def zm:Tb:=Tb.addL rK 169 2 S169_2.n0 (bQ S169_2 (Mw))
theorem IN:TbOk env (zm):=aG EI 169 2 (by kernel_rfl) _ (Co)
def S169:FunS:=⟨[utR 162],[],[utI],[]⟩
def F169:uAC:=aO env zm 60 12 169 S169
theorem F169_e (sd0:D):F169 [sd0] =
 let y0:=Mw [sd0,sd0,(.int (ae sd0))] [(.int 0)]
 gd (ap y0)<|bif ab .eql (ah (ac y0 0)) 0 then some [.int 0]else some [.int (ah (ac y0 1))]:=by kernel_rfl
def F169_eq:=by have h:= @F169_e;simp only[aF,gd,am,ak,ao,au,ar,aE,aj]at h;exact h
def W2:uAC:=veil (F169)
theorem Pa:W2=F169:=ai _
def W3:Tb:=Tb.addF zm 169 S169 (W2)
theorem W4:TbOk env (W3):=aJ IN 169 (by kernel_rfl) _ (Pa)
def S241:FunS:=⟨[utN,utI],[],[utS (.oslc 0 65)],[(.lst true 65)]⟩
def F241:uAC:=aO env W3 60 12 241 S241
theorem F241_e (sn0:Int):F241 [(D.int sn0)] =
 let y0:=J9 (aM .sub .i64 sn0 0) (.agg [(.str (ByteArray.mk #[])),(.agg [(.int 0),(.int 0),(.int 0),(.list []),(.list [])])])
 let x0:=aM .sub .i64 sn0 0
 bif ab .lss sn0 0 then none else bif ab .gtr x0 0 then gd (ab .lss 0 x0)<|gd (cA x0 88)<|gd (ab .leq 0 0)<|gd (ab .leq 0 x0)<|gd (ab .eql 0 (ae (dr y0 0 0)))<|some [dr y0 0 0]else gd (ab .eql 0 (ae (.list [])))<|some [.list []]:=by kernel_rfl
def F241_eq:=by have h:= @F241_e;simp only[aF,gd,am,ak,ao,au,ar,aE,aj]at h;exact h
def q241:uAC:=veil (F241)
theorem Pb:q241=F241:=ai _
def W5:Tb:=Tb.addF W3 241 S241 (q241)
theorem W6:TbOk env (W5):=aJ W4 241 (by kernel_rfl) _ (Pb)
def S223_3:LoopS:=⟨0,ufR 35::uF::ufN::utI::uAA 5 (ufR 35::ufI::utI::uAA 24 []),[],[⟨0,0,ufR 35::uT::utN::utI::uAB 5 (ufR 35::ufI::uAB 25 []),[]⟩]⟩
def uW (p s:List D):Option (Sum (List D) (List D)):=aP env W5 60 12 223 (bb 223 3) S223_3 p s
theorem R2 (pd0:D) (pd1:D) (pn2:Int) (sn0:Int) (sn1:Int):uW [pd0,pd1,(D.int pn2)] [(D.int sn0),(D.int sn1)] =
 let y0:=ab .lss (aM .add .i64 sn0 (ae (ay pd1 sn1))) 0
 bif ab .lss sn1 pn2 then gd (aS pd1 sn1)<|bif y0 then none else ge pd0<|ge pd1<|ge (.int pn2)<|some (Sum.inl [.int (aM .add .i64 sn0 (ae (ay pd1 sn1))),.int (aM .add .i64 sn1 1)])else ge pd0<|ge pd1<|ge (.int pn2)<|some (Sum.inr [.int 0,.int sn0]):=by kernel_rfl
def oq:=by have h:= @R2;simp only[aF,gd,am,ak,ao,au,ar,aE,aj]at h;exact h
def Mx:List D->uAC:=veil fun p s=>loW (uW p) s
theorem Cp:Mx=fun p s=>loW (uW p) s:=ai _
def zn:Tb:=Tb.addL W5 223 3 S223_3.n0 (bQ S223_3 (Mx))
theorem IP:TbOk env (zn):=aG W6 223 3 (by kernel_rfl) _ (Cp)
def S223_11:LoopS:=⟨0,uF::uF::ufN::uF::uF::uF::ufO 0 65::uAA 18 (ufR 35::ufI::utI::uAA 8 []),[(.lst true 65)],[⟨0,2,uT::uT::utN::uT::uT::uT::utO 0 65::uAB 18 (ufR 35::ufI::uAB 9 []),[(.lst true 65)]⟩]⟩
def pU (p s:List D):Option (Sum (List D) (List D)):=aP env zn 60 12 223 (bb 223 11) S223_11 p s
theorem My (pd0:D) (pn1:Int) (sn0:Int) (sd1:D):pU [pd0,(D.int pn1)] [(D.int sn0),sd1] =
 let y0:=ab .eql (ae (bG sd1 (ay pd0 sn0))) (ae (bG sd1 (ay pd0 sn0)))
 let x0:=ab .eql (ae sd1) (ae sd1)
 let x1:=bG sd1 (ay pd0 sn0)
 bif ab .lss sn0 pn1 then gd (aS pd0 sn0)<|gd x0<|gd (cA (ae x1) 88)<|gd y0<|ge pd0<|ge (.int pn1)<|some (Sum.inl [.int (aM .add .i64 sn0 1),x1])else gd x0<|ge pd0<|ge (.int pn1)<|some (Sum.inr [.int 0,sd1]):=by kernel_rfl
def my:=by have h:= @My;simp only[aF,gd,am,ak,ao,au,ar,aE,aj]at h;exact h
def EJ:List D->uAC:=veil fun p s=>loW (pU p) s
theorem zo:EJ=fun p s=>loW (pU p) s:=ai _
def rL:Tb:=Tb.addL zn 223 11 S223_11.n0 (bQ S223_11 (EJ))
theorem EK:TbOk env (rL):=aG IP 223 11 (by kernel_rfl) _ (zo)
def S223:FunS:=⟨[utR 35],[],[utR 65],[]⟩
def F223:uAC:=aO env rL 60 12 223 S223
theorem F223_e (sd0:D):F223 [sd0] =
 let y0:=Mx [sd0,sd0,(.int (ae sd0))] [(.int 0),(.int 0)]
 let y1:=q241 [(.int (ah (ac y0 1)))]
 let y2:=EJ [sd0,(.int (ae sd0))] [(.int 0),(ac y1 0)]
 let x0:=ae (ac y1 0)
 gd (ap y0)<|gd (ap y1)<|gd (ab .eql x0 x0)<|gd (ap y2)<|gd (ab .eql (ae (ac y2 1)) (ae (ac y2 1)))<|some [ac y2 1]:=by kernel_rfl
def F223_eq:=by have h:= @F223_e;simp only[aF,gd,am,ak,ao,au,ar,aE,aj]at h;exact h
def q223:uAC:=veil (F223)
theorem Pc:q223=F223:=ai _
def W7:Tb:=Tb.addF rL 223 S223 (q223)
theorem W8:TbOk env (W7):=aJ EK 223 (by kernel_rfl) _ (Pc)
def IQ:FunS:=⟨[utD 25],[],[utB],[]⟩
def zq:uAC:=aO env W7 60 12 242 IQ
theorem Mz (sd0:D):zq [sd0] =
 let y0:=ac (q85 [sd0,(.int 64)]) 0
 gd (ap (q85 [sd0,.int 64]))<|some [.bool (bU (aQ y0))]:=by kernel_rfl
def IR:=by have h:= @Mz;simp only[aF,gd,am,ak,ao,au,ar,aE,aj]at h;exact h
def mz:uAC:=veil (zq)
theorem tu:mz=zq:=ai _
def rM:Tb:=Tb.addF W7 242 IQ (mz)
theorem EL:TbOk env (rM):=aJ W8 242 (by kernel_rfl) _ (tu)
def S201_242_2:LoopS:=⟨0,ufR 25::ufS (.func 242 [] [])::uF::uF::ufZ::uF::uF::ufI::utI::uAA 10 [],[],[⟨0,0,ufR 25::uT::uT::uT::utZ::uT::uT::ufI::uAB 11 [],[]⟩,⟨1,0,ufR 25::uT::uT::uT::utI::uT::uT::ufI::uAB 11 [],[]⟩]⟩
def jh (p s:List D):Option (Sum (List D) (List D)):=aP env rM 60 12 201 (bb 201 2) S201_242_2 p s
theorem A5 (pd0:D) (pn1:Int) (sn0:Int):jh [pd0,(D.int pn1)] [(D.int sn0)] =
 let y0:=ap (mz [(ay pd0 sn0)])
 let y1:=ac (mz [(ay pd0 sn0)]) 0
 let x0:=D.int pn1
 bif ab .lss sn0 pn1 then gd (aS pd0 sn0)<|gd y0<|bif aQ y1 then ge pd0<|ge x0<|some (Sum.inr [.int 1,.int sn0])else ge pd0<|ge x0<|some (Sum.inl [.int (aM .add .i64 sn0 1)])else ge pd0<|ge x0<|some (Sum.inr [.int 0]):=by kernel_rfl
def zr:=by have h:= @A5;simp only[aF,gd,am,ak,ao,au,ar,aE,aj]at h;exact h
def ot:List D->uAC:=veil fun p s=>loW (jh p) s
theorem nD:ot=fun p s=>loW (jh p) s:=ai _
def kW:Tb:=Tb.addL rM 201 2 S201_242_2.n0 (bQ S201_242_2 (ot))
theorem tX:TbOk env (kW):=aG EL 201 2 (by kernel_rfl) _ (nD)
def IS:FunS:=⟨[utR 25,utS (.func 242 [] [])],[],[utI],[]⟩
def zt:uAC:=aO env kW 60 12 201 IS
theorem MA (sd0:D):zt [sd0] =
 let y0:=ot [sd0,(.int (ae sd0))] [(.int 0)]
 gd (ap y0)<|bif ab .eql (ah (ac y0 0)) 0 then some [.int (-1)]else some [.int (ah (ac y0 1))]:=by kernel_rfl
def IT:=by have h:= @MA;simp only[aF,gd,am,ak,ao,au,ar,aE,aj]at h;exact h
def pV:uAC:=veil (zt)
theorem tv:pV=zt:=ai _
def rN:Tb:=Tb.addF kW 201 IS (pV)
theorem EM:TbOk env (rN):=aJ tX 201 (by kernel_rfl) _ (tv)
def IU:FunS:=⟨[utR 25,utS (.func 242 [] [])],[],[utB],[]⟩
def zu:uAC:=aO env rN 60 12 137 IU
theorem MB (sd0:D):zu [sd0] =
 let y0:=ah (ac (pV [sd0]) 0)
 gd (ap (pV [sd0]))<|some [.bool (ab .geq y0 0)]:=by kernel_rfl
def IV:=by have h:= @MB;simp only[aF,gd,am,ak,ao,au,ar,aE,aj]at h;exact h
def pW:uAC:=veil (zu)
theorem tw:pW=zu:=ai _
def rO:Tb:=Tb.addF rN 137 IU (pW)
theorem EN:TbOk env (rO):=aJ EM 137 (by kernel_rfl) _ (tw)
def IW:FunS:=⟨[utD 25],[],[utB],[]⟩
def zw:uAC:=aO env rO 60 12 261 IW
theorem MC (sd0:D):zw [sd0] =
 let y0:=bU (aQ (ac (q86 [sd0]) 0))
 gd (ap (q86 [sd0]))<|some [.bool y0]:=by kernel_rfl
def IX:=by have h:= @MC;simp only[aF,gd,am,ak,ao,au,ar,aE,aj]at h;exact h
def mA:uAC:=veil (zw)
theorem tx:mA=zw:=ai _
def rP:Tb:=Tb.addF rO 261 IW (mA)
theorem EO:TbOk env (rP):=aJ EN 261 (by kernel_rfl) _ (tx)
def S201_261_2:LoopS:=⟨0,ufR 25::ufS (.func 261 [] [])::uF::uF::ufZ::uF::uF::ufI::utI::uAA 10 [],[],[⟨0,0,ufR 25::uT::uT::uT::utZ::uT::uT::ufI::uAB 11 [],[]⟩,⟨1,0,ufR 25::uT::uT::uT::utI::uT::uT::ufI::uAB 11 [],[]⟩]⟩
def ji (p s:List D):Option (Sum (List D) (List D)):=aP env rP 60 12 201 (bb 201 2) S201_261_2 p s
theorem A6 (pd0:D) (pn1:Int) (sn0:Int):ji [pd0,(D.int pn1)] [(D.int sn0)] =
 let y0:=ap (mA [(ay pd0 sn0)])
 let y1:=ac (mA [(ay pd0 sn0)]) 0
 let x0:=D.int pn1
 bif ab .lss sn0 pn1 then gd (aS pd0 sn0)<|gd y0<|bif aQ y1 then ge pd0<|ge x0<|some (Sum.inr [.int 1,.int sn0])else ge pd0<|ge x0<|some (Sum.inl [.int (aM .add .i64 sn0 1)])else ge pd0<|ge x0<|some (Sum.inr [.int 0]):=by kernel_rfl
def zx:=by have h:= @A6;simp only[aF,gd,am,ak,ao,au,ar,aE,aj]at h;exact h
def ou:List D->uAC:=veil fun p s=>loW (ji p) s
theorem nE:ou=fun p s=>loW (ji p) s:=ai _
def kX:Tb:=Tb.addL rP 201 2 S201_261_2.n0 (bQ S201_261_2 (ou))
theorem tY:TbOk env (kX):=aG EO 201 2 (by kernel_rfl) _ (nE)
def IY:FunS:=⟨[utR 25,utS (.func 261 [] [])],[],[utI],[]⟩
def zy:uAC:=aO env kX 60 12 201 IY
theorem MD (sd0:D):zy [sd0] =
 let y0:=ou [sd0,(.int (ae sd0))] [(.int 0)]
 gd (ap y0)<|bif ab .eql (ah (ac y0 0)) 0 then some [.int (-1)]else some [.int (ah (ac y0 1))]:=by kernel_rfl
def IZ:=by have h:= @MD;simp only[aF,gd,am,ak,ao,au,ar,aE,aj]at h;exact h
def pX:uAC:=veil (zy)
theorem tz:pX=zy:=ai _
def rQ:Tb:=Tb.addF kX 201 IY (pX)
theorem EP:TbOk env (rQ):=aJ tY 201 (by kernel_rfl) _ (tz)
def I0:FunS:=⟨[utR 25,utS (.func 261 [] [])],[],[utB],[]⟩
def zz:uAC:=aO env rQ 60 12 137 I0
theorem ME (sd0:D):zz [sd0] =
 let y0:=ah (ac (pX [sd0]) 0)
 gd (ap (pX [sd0]))<|some [.bool (ab .geq y0 0)]:=by kernel_rfl
def I1:=by have h:= @ME;simp only[aF,gd,am,ak,ao,au,ar,aE,aj]at h;exact h
def mB:uAC:=veil (zz)
theorem tA:mB=zz:=ai _
def rR:Tb:=Tb.addF rQ 137 I0 (mB)
theorem EQ:TbOk env (rR):=aJ EP 137 (by kernel_rfl) _ (tA)
def S243:FunS:=⟨[utD 187],[],[utB],[]⟩
def F243:uAC:=aO env rR 60 12 243 S243
theorem F243_e (sd0:D):F243 [sd0] =
 let y0:=AX [(.str (aB (aa sd0 2)))]
 let y1:=aw (aw (bU (aQ (ac y0 0))) true false) true (ab .neq (ah (aa sd0 1)) 0)
 let y2:=aw (ab .gtr (ae (aa sd0 4)) 0) true (ab .gtr (ae (aa sd0 5)) 0)
 let y3:=ap (mB [(aa sd0 3)])
 let y4:=ac (mB [(aa sd0 3)]) 0
 let y5:=aw (ab .neq (ah (aa sd0 1)) 1) (ab .neq (ah (aa sd0 1)) 2) false
 let y6:=aw (cI .neq (aB (aa sd0 2)) (ByteArray.mk #[])) true (ab .neq (ah (aa sd0 1)) (ah (aa sd0 1)))
 let y7:=aw (ab .eql (ah (aa sd0 0)) 12) (ab .eql (ah (aa sd0 0)) 12) (ab .eql (ah (aa sd0 0)) 13)
 let y8:=aw (ab .eql (ah (aa sd0 0)) 5) (ab .eql (ah (aa sd0 0)) 5) y7
 let y9:=aw (ab .eql (ah (aa sd0 0)) 3) (ab .eql (ah (aa sd0 0)) 3) y8
 let y10:=aw (cI .neq (aB (aa sd0 2)) (ByteArray.mk #[])) true (ab .neq (ah (aa sd0 1)) 0)
 let y11:=aw (ab .gtr (ae (aa sd0 5)) 0) true (ab .gtr (ae (aa sd0 6)) 0)
 let y12:=aw (ab .lss (ae (aa sd0 6)) 1) true (ab .gtr (ae (aa sd0 6)) 64)
 let y13:=aw (ab .eql (ah (aa sd0 0)) 14) (ab .eql (ah (aa sd0 0)) 14) (ab .eql (ah (aa sd0 0)) 15)
 let y14:=aw (ab .eql (ah (aa sd0 0)) 11) (ab .eql (ah (aa sd0 0)) 11) y13
 let y15:=aw (ab .eql (ah (aa sd0 0)) 10) (ab .eql (ah (aa sd0 0)) 10) y14
 let x0:=ah (aa sd0 0)
 let x1:=ae (aa sd0 3)
 let x2:=ab .neq x1 1
 let x3:Option (List D):=some [.bool false]
 let x4:=ab .gtr (ae (aa sd0 6)) 0
 let x5:Option (List D):=gd y3<|some [.bool (bU (aQ y4))]
 let x6:Option (List D):=bif aw y2 true x4 then x3 else x5
 let x7:=ab .neq x1 0
 let x8:=aw y10 true x2
 let x9:=aw y10 true x7
 bif ab .eql x0 1 then gd (ap y0)<|bif aw y1 true x2 then x3 else x6 else bif ab .eql x0 2 then bif aw y5 (ab .neq (ah (aa sd0 1)) 4) false then x3 else bif aw y6 true (ab .neq x1 2)then x3 else x6 else bif y9 then gd (ap y0)<|bif aw y1 true x7 then x3 else x6 else bif ab .eql x0 4 then bif x8 then x3 else x6 else bif ab .eql x0 6 then bif x8 then x3 else bif x4 then x3 else x5 else bif ab .eql x0 7 then bif x8 then x3 else bif y11 then x3 else x5 else bif ab .eql x0 8 then bif x9 then x3 else bif y11 then x3 else x5 else bif ab .eql x0 9 then bif y12 then x3 else bif x8 then x3 else bif aw y2 true false then x3 else x5 else bif y15 then bif x9 then x3 else x6 else x3:=by kernel_rfl
def F243_eq:=by have h:= @F243_e;simp only[aF,gd,am,ak,ao,au,ar,aE,aj]at h;exact h
def q243:uAC:=veil (F243)
theorem Pd:q243=F243:=ai _
def W9:Tb:=Tb.addF rR 243 S243 (q243)
theorem Xa:TbOk env (W9):=aJ EQ 243 (by kernel_rfl) _ (Pd)
def S244_2:LoopS:=⟨0,ufS (.eptr [(.func 142 [] [(.eptr [(.rows 65)])]),(.rows 9),(.rows 9),(.rows 9)])::uF::uF::ufP 0 0::ufS (.lit (.bool false))::uF::uF::uF::ufR 25::ufI::utI::uAA 41 [],[(.dat false 187)],[⟨0,0,ufS (.eptr [(.func 142 [] [(.eptr [(.rows 65)])]),(.rows 9),(.rows 9),(.rows 9)])::uT::uT::utP 0 0::utS (.lit (.bool false))::uT::uT::uT::ufR 25::ufI::uAB 42 [],[(.dat false 187)]⟩,⟨1,0,ufS (.eptr [(.func 142 [] [(.eptr [(.rows 65)])]),(.rows 9),(.rows 9),(.rows 9)])::uT::uT::uT::utS (.lit (.bool false))::uT::uT::uT::ufR 25::ufI::uAB 42 [],[(.dat false 187)]⟩]⟩
def uX (p s:List D):Option (Sum (List D) (List D)):=aP env W9 60 12 244 (bb 244 2) S244_2 p s
theorem R3 (pd0:D) (pd1:D) (pd2:D) (pd3:D) (pd4:D) (pn5:Int) (pd6:D) (sn0:Int):uX [pd0,pd1,pd2,pd3,pd4,(D.int pn5),pd6] [(D.int sn0)] =
 let y0:=ap (q87 [(ay pd4 sn0),pd0])
 let y1:=ac (q87 [(ay pd4 sn0),pd0]) 0
 let x0:=D.int pn5
 bif ab .lss sn0 pn5 then gd (aS pd4 sn0)<|gd y0<|bif bU (aQ y1)then ge pd0<|ge pd1<|ge pd2<|ge pd3<|ge pd4<|ge x0<|ge pd6<|some (Sum.inr [.int 1])else ge pd0<|ge pd1<|ge pd2<|ge pd3<|ge pd4<|ge x0<|ge pd6<|some (Sum.inl [.int (aM .add .i64 sn0 1)])else ge pd0<|ge pd1<|ge pd2<|ge pd3<|ge pd4<|ge x0<|ge pd6<|some (Sum.inr [.int 0]):=by kernel_rfl
def MF:=by have h:= @R3;simp only[aF,gd,am,ak,ao,au,ar,aE,aj]at h;exact h
def MG:List D->uAC:=veil fun p s=>loW (uX p) s
theorem Cq:MG=fun p s=>loW (uX p) s:=ai _
def zA:Tb:=Tb.addL W9 244 2 S244_2.n0 (bQ S244_2 (MG))
theorem I2:TbOk env (zA):=aG Xa 244 2 (by kernel_rfl) _ (Cq)
def S244:FunS:=⟨[utS (.eptr [(.func 142 [] [(.eptr [(.rows 65)])]),(.rows 9),(.rows 9),(.rows 9)]),utD 187],[],[utB],[]⟩
def F244:uAC:=aO env zA 60 12 244 S244
theorem F244_e (sd0:D) (sd1:D) (sd2:D) (sd3:D) (sd4:D):F244 [sd0,sd1,sd2,sd3,sd4] =
 let y0:=MG [sd0,sd1,sd2,sd3,(aa sd4 3),(.int (ae (aa sd4 3))),sd4] [(.int 0)]
 let y1:=aw (ab .eql (ah (aa sd4 0)) 1) (ab .eql (ah (aa sd4 0)) 1) (ab .eql (ah (aa sd4 0)) 3)
 let y2:=Rk [(.str (aB (aa sd4 2))),sd0]
 let y3:=Ix [sd1,(.str (aB (aa sd4 2)))]
 let y4:=Ix [sd2,(.str (aB (aa sd4 2)))]
 let x0:=ah (aa sd4 0)
 gd (ap y0)<|bif ab .eql (ah (ac y0 0)) 0 then bif y1 then gd (ap y2)<|some [.bool (aQ (ac y2 0))]else bif ab .eql x0 5 then gd (ap y3)<|some [.bool (aQ (ac y3 0))]else bif ab .eql x0 12 then gd (ap y4)<|some [.bool (aQ (ac y4 0))]else some [.bool true]else some [.bool false]:=by kernel_rfl
def F244_eq:=by have h:= @F244_e;simp only[aF,gd,am,ak,ao,au,ar,aE,aj]at h;exact h
def q244:uAC:=veil (F244)
theorem Pe:q244=F244:=ai _
def Xb:Tb:=Tb.addF zA 244 S244 (q244)
theorem Xc:TbOk env (Xb):=aJ I2 244 (by kernel_rfl) _ (Pe)
def S224:FunS:=⟨[utP 0 0,utD 278],[(.lst true 9),(.lst false 9),(.cells [ufS (.func 142 [] [(.eptr [(.rows 65)])]),ufR 9,ufO 1 9,ufO 2 9])],[utI],[(.lst true 9), .skip,(.lst false 9),(.cells [ufS (.func 142 [] [(.eptr [(.rows 65)])]),ufR 9,utO 1 9,utO 3 9])]⟩
def F224:uAC:=aO env Xb 60 12 224 S224
theorem F224_e (pd0:D) (pd1:D) (pd2:D) (sd0:D) (sd1:D):F224 [pd0,pd1,pd2,sd0,sd1] =
 let y0:=pW [(aa (aa sd0 0) 3)]
 let y1:=q243 [(.agg [(.int (ah (aa (aa sd0 0) 0))),(.int (ah (aa (aa sd0 0) 1))),(.str (aB (aa (aa sd0 0) 2))),(aa (aa sd0 0) 3),(aa (aa sd0 0) 4),(aa (aa sd0 0) 5),(aa (aa sd0 0) 6)])]
 let y2:=q244 [pd1,pd2,pd0,sd1,(.agg [(.int (ah (aa (aa sd0 0) 0))),(.int (ah (aa (aa sd0 0) 1))),(.str (aB (aa (aa sd0 0) 2))),(aa (aa sd0 0) 3),(aa (aa sd0 0) 4),(aa (aa sd0 0) 5),(aa (aa sd0 0) 6)])]
 let y3:=aw (ab .eql (ah (aa (aa sd0 0) 0)) 10) true (ab .eql (ah (aa (aa sd0 0) 0)) 11)
 let y4:=Ix [sd1,(.str (aB (aa (aa sd0 0) 2)))]
 let y5:=ae (bG sd1 (.list [(.str (aB (aa (aa sd0 0) 2)))]))
 let x0:=ab .eql (ae pd0) (ae pd0)
 let x1:=ab .eql (ae sd1) (ae sd1)
 gd (ap y0)<|bif aQ (ac y0 0)then gd x0<|gd x1<|ge pd0<|ge pd1<|ge pd2<|some [.int 20,sd1]else gd (ap y1)<|bif bU (aQ (ac y1 0))then gd x0<|gd x1<|ge pd0<|ge pd1<|ge pd2<|some [.int 2,sd1]else gd x0<|gd x1<|gd (ap y2)<|bif bU (aQ (ac y2 0))then gd x0<|gd x1<|ge pd0<|ge pd1<|ge pd2<|some [.int 17,sd1]else bif aw y3 (bU (aQ (aa sd0 1))) false then gd x0<|gd x1<|ge pd0<|ge pd1<|ge pd2<|some [.int 21,sd1]else bif ab .eql (ah (aa (aa sd0 0) 0)) 13 then gd x1<|gd (ap y4)<|bif aQ (ac y4 0)then gd x0<|gd x1<|ge pd0<|ge pd1<|ge pd2<|some [.int 8,sd1]else gd x1<|gd (cA y5 16)<|gd x0<|gd (ab .eql y5 y5)<|ge pd0<|ge pd1<|ge pd2<|some [.int 0,bG sd1 (.list [.str (aB (aa (aa sd0 0) 2))])]else gd x0<|gd x1<|ge pd0<|ge pd1<|ge pd2<|some [.int 0,sd1]:=by kernel_rfl
def F224_eq:=by have h:= @F224_e;simp only[aF,gd,am,ak,ao,au,ar,aE,aj]at h;exact h
def q224:uAC:=veil (F224)
theorem Pf:q224=F224:=ai _
def Xd:Tb:=Tb.addF Xb 224 S224 (q224)
theorem Xe:TbOk env (Xd):=aJ Xc 224 (by kernel_rfl) _ (Pf)
def S170_13:LoopS:=⟨0,uAA 6 (ufZ::uF::ufR 278::ufP 0 0::uAA 41 (ufR 278::ufI::utI::uAA 33 [])),[(.lst true 9),(.cells [ufS (.func 142 [] [(.eptr [(.rows 65)])]),ufR 9,ufO 1 9,ufN])],[⟨0,0,uAB 6 (utZ::uT::ufR 278::utP 0 0::uAB 41 (ufR 278::ufI::uAB 34 [])),[(.lst true 9),(.cells [ufS (.func 142 [] [(.eptr [(.rows 65)])]),ufR 9,utO 1 9,utN])]⟩]⟩
def pY (p s:List D):Option (Sum (List D) (List D)):=aP env Xd 60 12 170 (bb 170 13) S170_13 p s
theorem MH (pd0:D) (pd1:D) (pn2:Int) (pd3:D) (pd4:D) (sn0:Int) (sd1:D):pY [pd0,pd1,(D.int pn2),pd3,pd4] [(D.int sn0),sd1] =
 let y0:=bG sd1 (.list [(.str (aB (aa (aa (ay pd1 sn0) 0) 2)))])
 let x0:=ab .eql (ae sd1) (ae sd1)
 let x1:=ae y0
 let x2:=D.int pn2
 let x3:=D.int (aM .add .i64 sn0 1)
 bif ab .lss sn0 pn2 then gd (aS pd1 sn0)<|bif ab .eql (ah (aa (aa (ay pd1 sn0) 0) 0)) 13 then gd x0<|gd (cA x1 16)<|gd (ab .eql x1 x1)<|ge pd0<|ge pd1<|ge x2<|ge pd3<|ge pd4<|some (Sum.inl [x3,y0])else gd x0<|ge pd0<|ge pd1<|ge x2<|ge pd3<|ge pd4<|some (Sum.inl [x3,sd1])else gd x0<|ge pd0<|ge pd1<|ge x2<|ge pd3<|ge pd4<|some (Sum.inr [.int 0,sd1]):=by kernel_rfl
def tB:=by have h:= @MH;simp only[aF,gd,am,ak,ao,au,ar,aE,aj]at h;exact h
def ER:List D->uAC:=veil fun p s=>loW (pY p) s
theorem zB:ER=fun p s=>loW (pY p) s:=ai _
def rS:Tb:=Tb.addL Xd 170 13 S170_13.n0 (bQ S170_13 (ER))
theorem ES:TbOk env (rS):=aG Xe 170 13 (by kernel_rfl) _ (zB)
def S170_19:LoopS:=⟨0,uAA 6 (ufZ::uF::uF::ufP 0 0::uAA 64 (ufR 278::ufI::utI::uAA 10 [])),[(.lst true 9),(.lst false 9),(.cells [ufS (.func 142 [] [(.eptr [(.rows 65)])]),ufR 9,ufO 1 9,ufO 2 9])],[⟨0,2,uAB 6 (utZ::uAB 67 (ufR 278::ufI::uAB 11 [])),[.skip,(.lst false 9),(.cells [ufS (.func 142 [] [(.eptr [(.rows 65)])]),ufR 9,uT,uT])]⟩,⟨1,0,uAB 6 (utI::uAB 67 (ufR 278::ufI::uAB 11 [])),[.skip,(.lst false 9),(.cells [ufS (.func 142 [] [(.eptr [(.rows 65)])]),ufR 9,uT,uT])]⟩]⟩
def pZ (p s:List D):Option (Sum (List D) (List D)):=aP env rS 60 12 170 (bb 170 19) S170_19 p s
theorem MI (pd0:D) (pn1:Int) (pd2:D) (pd3:D) (pd4:D) (sn0:Int) (sd1:D):pZ [pd0,(D.int pn1),pd2,pd3,pd4] [(D.int sn0),sd1] =
 let y0:=q224 [pd2,pd3,pd4,(ay pd0 sn0),sd1]
 let x0:=ab .eql (ae pd2) (ae pd2)
 let x1:=ah (ac y0 0)
 let x2:=D.int pn1
 bif ab .lss sn0 pn1 then gd (aS pd0 sn0)<|gd x0<|gd (ab .eql (ae sd1) (ae sd1))<|gd (ap y0)<|bif ab .neq x1 0 then ge pd0<|ge x2<|ge pd2<|ge pd3<|ge pd4<|some (Sum.inr [.int 1,.int x1])else gd x0<|gd (ab .eql (ae (ac y0 1)) (ae (ac y0 1)))<|ge pd0<|ge x2<|ge pd2<|ge pd3<|ge pd4<|some (Sum.inl [.int (aM .add .i64 sn0 1),ac y0 1])else ge pd0<|ge x2<|ge pd2<|ge pd3<|ge pd4<|some (Sum.inr [.int 0]):=by kernel_rfl
def tC:=by have h:= @MI;simp only[aF,gd,am,ak,ao,au,ar,aE,aj]at h;exact h
def ET:List D->uAC:=veil fun p s=>loW (pZ p) s
theorem zC:ET=fun p s=>loW (pZ p) s:=ai _
def rT:Tb:=Tb.addL rS 170 19 S170_19.n0 (bQ S170_19 (ET))
theorem EU:TbOk env (rT):=aG ES 170 19 (by kernel_rfl) _ (zC)
def S170:FunS:=⟨[utD 197,utD 38,utR 9],[],[utI],[]⟩
def F170:uAC:=aO env rT 60 12 170 S170
theorem F170_e (sd0:D) (sd1:D) (sd2:D):F170 [sd0,sd1,sd2] =
 let y0:=aM .add .i64 (ae (aa sd0 0)) (ae (aa sd1 1))
 let y1:=WM [(aa sd0 0),(aa sd1 1)]
 let y2:=ah (ac (WU [(aa sd1 2)]) 0)
 let y3:=q222 [(aa sd1 2),(.bool false)]
 let y4:=q223 [(.list [(aa sd0 0),(aa sd1 1)])]
 let y5:=ER [(ac y3 0),(ac y3 0),(.int (ae (ac y3 0))),(ac y4 0),sd2] [(.int 0),(.list [])]
 let y6:=ET [(ac y3 0),(.int (ae (ac y3 0))),(ac y5 1),(ac y4 0),sd2] [(.int 0),(.list [])]
 let x0:Option (List D):=some [.int 6]
 let x1:=ah (ac y1 0)
 let x2:=ab .eql 0 (ae (.list []))
 let x3:=ae (ac y5 1)
 bif ab .gtr y0 256 then x0 else gd (ap y1)<|bif ab .neq x1 0 then some [.int x1]else gd (ap (WU [aa sd1 2]))<|bif ab .gtr y2 64 then some [.int 20]else gd (ap y3)<|bif ab .gtr (ae (ac y3 0)) 1024 then x0 else gd (ap y4)<|gd x2<|gd (ap y5)<|gd (ab .eql x3 x3)<|gd x2<|gd (ap y6)<|bif ab .eql (ah (ac y6 0)) 0 then some [.int 0]else some [.int (ah (ac y6 1))]:=by kernel_rfl
def F170_eq:=by have h:= @F170_e;simp only[aF,gd,am,ak,ao,au,ar,aE,aj]at h;exact h
def Xf:uAC:=veil (F170)
theorem Pg:Xf=F170:=ai _
def Xg:Tb:=Tb.addF rT 170 S170 (Xf)
theorem Xh:TbOk env (Xg):=aJ EU 170 (by kernel_rfl) _ (Pg)
def S111_13:LoopS:=⟨0,uF::ufP 0 0::ufZ::uF::uF::ufO 1 9::uAA 38 (ufR 38::ufI::utI::uAA 32 []),[(.lst true 9),(.dat false 197)],[⟨0,0,uT::utP 0 0::utZ::uT::uT::utO 1 9::uAB 38 (ufR 38::ufI::uAB 33 []),[(.lst true 9),(.dat false 197)]⟩,⟨1,0,uT::uT::utI::uAB 41 (ufR 38::ufI::uAB 33 []),[.skip,(.dat false 197)]⟩]⟩
def p5 (p s:List D):Option (Sum (List D) (List D)):=aP env Xg 60 12 111 (bb 111 13) S111_13 p s
theorem MJ (pd0:D) (pn1:Int) (pd2:D) (sn0:Int) (sd1:D):p5 [pd0,(D.int pn1),pd2] [(D.int sn0),sd1] =
 let y0:=AX [(.str (aB (aa (ay pd0 sn0) 0)))]
 let y1:=Ix [sd1,(.str (aB (aa (ay pd0 sn0) 0)))]
 let y2:=ae (bG sd1 (.list [(.str (aB (aa (ay pd0 sn0) 0)))]))
 let x0:=D.int pn1
 let x1:=ab .eql (ae sd1) (ae sd1)
 bif ab .lss sn0 pn1 then gd (aS pd0 sn0)<|gd (ap y0)<|bif bU (aQ (ac y0 0))then ge pd0<|ge x0<|ge pd2<|some (Sum.inr [.int 1,.int 3])else gd x1<|gd (ap y1)<|bif aQ (ac y1 0)then ge pd0<|ge x0<|ge pd2<|some (Sum.inr [.int 1,.int 8])else gd x1<|gd (cA y2 16)<|gd (ab .eql y2 y2)<|ge pd0<|ge x0<|ge pd2<|some (Sum.inl [.int (aM .add .i64 sn0 1),bG sd1 (.list [.str (aB (aa (ay pd0 sn0) 0))])])else gd x1<|ge pd0<|ge x0<|ge pd2<|some (Sum.inr [.int 0,sd1]):=by kernel_rfl
def tE:=by have h:= @MJ;simp only[aF,gd,am,ak,ao,au,ar,aE,aj]at h;exact h
def EV:List D->uAC:=veil fun p s=>loW (p5 p) s
theorem zD:EV=fun p s=>loW (p5 p) s:=ai _
def rU:Tb:=Tb.addL Xg 111 13 S111_13.n0 (bQ S111_13 (EV))
theorem EW:TbOk env (rU):=aG Xh 111 13 (by kernel_rfl) _ (zD)
def S111_22:LoopS:=⟨0,uF::ufP 0 0::ufZ::uF::uF::ufO 1 9::uAA 59 (ufR 38::ufI::utI::uAA 11 []),[(.lst false 9),(.dat false 197)],[⟨0,2,uT::uT::utZ::uAB 62 (ufR 38::ufI::uAB 12 []),[(.lst false 9),(.dat false 197)]⟩,⟨1,0,uT::uT::utI::uAB 62 (ufR 38::ufI::uAB 12 []),[(.lst false 9),(.dat false 197)]⟩]⟩
def p6 (p s:List D):Option (Sum (List D) (List D)):=aP env rU 60 12 111 (bb 111 22) S111_22 p s
theorem MK (pd0:D) (pn1:Int) (pd2:D) (pd3:D) (sn0:Int):p6 [pd0,(D.int pn1),pd2,pd3] [(D.int sn0)] =
 let y0:=Xf [pd3,(ay pd0 sn0),pd2]
 let x0:=ab .eql (ae pd2) (ae pd2)
 let x1:=ah (ac y0 0)
 let x2:=D.int pn1
 bif ab .lss sn0 pn1 then gd (aS pd0 sn0)<|gd x0<|gd (ap y0)<|bif ab .neq x1 0 then ge pd0<|ge x2<|ge pd2<|ge pd3<|some (Sum.inr [.int 1,.int x1])else gd x0<|ge pd0<|ge x2<|ge pd2<|ge pd3<|some (Sum.inl [.int (aM .add .i64 sn0 1)])else ge pd0<|ge x2<|ge pd2<|ge pd3<|some (Sum.inr [.int 0]):=by kernel_rfl
def tF:=by have h:= @MK;simp only[aF,gd,am,ak,ao,au,ar,aE,aj]at h;exact h
def EX:List D->uAC:=veil fun p s=>loW (p6 p) s
theorem zE:EX=fun p s=>loW (p6 p) s:=ai _
def rV:Tb:=Tb.addL rU 111 22 S111_22.n0 (bQ S111_22 (EX))
theorem EY:TbOk env (rV):=aG EW 111 22 (by kernel_rfl) _ (zE)
def S111:FunS:=⟨[utD 197],[],[utI],[]⟩
def F111:uAC:=aO env rV 60 12 111 S111
theorem F111_e (sd0:D):F111 [sd0] =
 let y0:=aw (ab .gtr (ae (aa sd0 0)) 256) true (ab .gtr (ae (aa sd0 1)) 16)
 let y1:=WM [(.list []),(aa sd0 0)]
 let y2:=ah (ac (W2 [(aa sd0 1)]) 0)
 let y3:=EV [(aa sd0 2),(.int (ae (aa sd0 2))),sd0] [(.int 0),(.list [])]
 let y4:=EX [(aa sd0 2),(.int (ae (aa sd0 2))),(ac y3 1),sd0] [(.int 0)]
 let x0:=ae (aa sd0 2)
 let x1:=ah (ac y1 0)
 bif aw y0 true (ab .gtr x0 64)then some [.int 6]else bif ab .eql x0 0 then some [.int 17]else gd (ap y1)<|bif ab .neq x1 0 then some [.int x1]else gd (ap (W2 [aa sd0 1]))<|bif ab .neq y2 0 then some [.int y2]else gd (ab .eql 0 (ae (.list [])))<|gd (ap y3)<|bif ab .eql (ah (ac y3 0)) 0 then gd (ab .eql (ae (ac y3 1)) (ae (ac y3 1)))<|gd (ap y4)<|bif ab .eql (ah (ac y4 0)) 0 then some [.int 0]else some [.int (ah (ac y4 1))]else some [.int (ah (ac y3 1))]:=by kernel_rfl
def F111_eq:=by have h:= @F111_e;simp only[aF,gd,am,ak,ao,au,ar,aE,aj]at h;exact h
def q111:uAC:=veil (F111)
theorem Ph:q111=F111:=ai _
def Xi:Tb:=Tb.addF rV 111 S111 (q111)
theorem Xj:TbOk env (Xi):=aJ EY 111 (by kernel_rfl) _ (Ph)
def S112:FunS:=⟨[utD 187,utP 0 0,utP 1 0],[(.cells [utI]),(.cells [ufR 9])],[utS (.tup [])],[(.cells [utI]),(.cells [ufR 9])]⟩
def F112:uAC:=aO env Xi 60 12 112 S112
theorem F112_e (pd0:D) (sd0:D) (sn1:Int):F112 [pd0,sd0,(D.int sn1)] =
 let y0:=Ix [pd0,(.str (aB (aa sd0 2)))]
 let y1:=aw (ab .eql (ah (aa sd0 0)) 5) (ap y0) true
 let y2:=aw (ab .eql (ah (aa sd0 0)) 5) (bU (aQ (ac y0 0))) false
 gd y1<|bif y2 then ge pd0<|some [.int 17]else ge pd0<|some [.int sn1]:=by kernel_rfl
def F112_eq:=by have h:= @F112_e;simp only[aF,gd,am,ak,ao,au,ar,aE,aj]at h;exact h
def q112:uAC:=veil (F112)
theorem Pi:q112=F112:=ai _
def Xk:Tb:=Tb.addF Xi 112 S112 (q112)
theorem I3:TbOk env (Xk):=aJ Xj 112 (by kernel_rfl) _ (Pi)
def S74:FunS:=⟨[utR 187,utS (.func 112 [] [(.ptr 0 0),(.ptr 1 0)])],[(.cells [utI]),(.cells [ufR 9])],[utS (.tup [])],[(.cells [utI]),(.cells [ufR 9])]⟩
def Xl (Q:uAC):Tb:=Tb.addF Xk 74 S74 Q
theorem Xm (Q:uAC) (hQ:aH env.P 74 S74 Q):TbOk env (Xl Q):=TbOk.addF I3 (by kernel_rfl) hQ
def S74_7:LoopS:=⟨2,uF::ufS (.func 112 [] [(.ptr 0 0),(.ptr 1 0)])::uAA 6 (ufR 187::ufI::ufI::uAA 15 (ufR 36::ufI::utI::uAA 8 [])),[(.cells [utI]),(.cells [ufR 9])],[⟨0,2,uT::utS (.func 112 [] [(.ptr 0 0),(.ptr 1 0)])::uAB 6 (ufR 187::ufI::ufI::uAB 15 (ufR 36::ufI::uAB 9 [])),[(.cells [utI]),(.cells [ufR 9])]⟩]⟩
def EZ (Q:uAC) (p s:List D):Option (Sum (List D) (List D)):=aP env (Xl Q) 60 12 74 (bb 74 7) S74_7 p s
theorem Xn (Q:uAC) (pd0:D) (pn1:Int) (pn2:Int) (pd3:D) (pn4:Int) (pd5:D) (sn0:Int) (sn1:Int):EZ Q [pd0,(D.int pn1),(D.int pn2),pd3,(D.int pn4),pd5] [(D.int sn0),(D.int sn1)] =
 let x0:=Q [pd5,ay pd3 sn0,.int sn1]
 bif ab .lss sn0 pn4 then gd (aS pd3 sn0)<|gd (ap x0)<|ge pd0<|ge (.int pn1)<|ge (.int pn2)<|ge pd3<|ge (.int pn4)<|ge pd5<|some (Sum.inl [.int (aM .add .i64 sn0 1),.int (ah (ac x0 0))])else ge pd0<|ge (.int pn1)<|ge (.int pn2)<|ge pd3<|ge (.int pn4)<|ge pd5<|some (Sum.inr [.int 0,.int sn1]):=by kernel_rfl
def Cr:=by have h:= @Xn;simp only[aF,gd,am,ak,ao,au,ar,aE,aj]at h;exact h
def Pj (Q:uAC):List D->uAC:=veil fun p s=>loW (EZ Q p) s
theorem I4 (Q:uAC):Pj Q=fun p s=>loW (EZ Q p) s:=ai _
def E4 (Q:uAC):Tb:=Tb.addL (Xl Q) 74 7 S74_7.n0 (bQ S74_7 (Pj Q))
theorem ML (Q:uAC) (hQ:aH env.P 74 S74 Q):TbOk env (E4 Q):=aG (Xm Q hQ) 74 7 (by kernel_rfl) _ (I4 Q)
def S74_1:LoopS:=⟨2,uF::ufS (.func 112 [] [(.ptr 0 0),(.ptr 1 0)])::uAA 6 (ufR 187::ufI::utI::uAA 26 []),[(.cells [utI]),(.cells [ufR 9])],[⟨0,0,uAB 8 (ufR 187::ufI::uAB 27 []),[(.cells [utI]),(.cells [ufR 9])]⟩]⟩
def E5 (Q:uAC) (p s:List D):Option (Sum (List D) (List D)):=aP env (E4 Q) 60 12 74 (bb 74 1) S74_1 p s
theorem Xo (Q:uAC) (pd0:D) (pn1:Int) (pd2:D) (sn0:Int) (sn1:Int):E5 Q [pd0,(D.int pn1),pd2] [(D.int sn0),(D.int sn1)] =
 let y0:=q112 [pd2,(ay pd0 sn0),(.int sn1)]
 let y1:=ap (Q [pd2,(aa (ay pd0 sn0) 4),(.int (ah (ac y0 0)))])
 let y2:=ac (Q [pd2,(aa (ay pd0 sn0) 4),(.int (ah (ac y0 0)))]) 0
 let y3:=ap (Q [pd2,(aa (ay pd0 sn0) 5),(.int (ah y2))])
 let y4:=ac (Q [pd2,(aa (ay pd0 sn0) 5),(.int (ah y2))]) 0
 let y5:=Pj Q [pd0,(.int pn1),(.int sn0),(aa (ay pd0 sn0) 6),(.int (ae (aa (ay pd0 sn0) 6))),pd2] [(.int 0),(.int (ah y4))]
 bif ab .lss sn0 pn1 then gd (aS pd0 sn0)<|gd (ap y0)<|gd y1<|gd y3<|gd (ap y5)<|ge pd0<|ge (.int pn1)<|ge pd2<|some (Sum.inl [.int (aM .add .i64 sn0 1),.int (ah (ac y5 1))])else ge pd0<|ge (.int pn1)<|ge pd2<|some (Sum.inr [.int 0,.int sn1]):=by kernel_rfl
def Cs:=by have h:= @Xo;simp only[aF,gd,am,ak,ao,au,ar,aE,aj]at h;exact h
def Xp (Q:uAC):List D->uAC:=veil fun p s=>loW (E5 Q p) s
theorem I5 (Q:uAC):Xp Q=fun p s=>loW (E5 Q p) s:=ai _
def E6 (Q:uAC):Tb:=Tb.addL (E4 Q) 74 1 S74_1.n0 (bQ S74_1 (Xp Q))
theorem MM (Q:uAC) (hQ:aH env.P 74 S74 Q):TbOk env (E6 Q):=aG (ML Q hQ) 74 1 (by kernel_rfl) _ (I5 Q)
def Fb74 (Q:uAC):uAC:=aO env (E6 Q) 60 12 74 S74
theorem Fb74_e (Q:uAC) (pd0:D) (sd0:D) (sn1:Int):Fb74 Q [pd0,sd0,(D.int sn1)] =
 let y0:=Xp Q [sd0,(.int (ae sd0)),pd0] [(.int 0),(.int sn1)]
 gd (ap y0)<|ge pd0<|some [.int (ah (ac y0 1))]:=by kernel_rfl
def Fb74_eq:=by have h:= @Fb74_e;simp only[aF,gd,am,ak,ao,au,ar,aE,aj]at h;exact h
def F74:Nat->uAC:=levels Fb74
theorem F74_s (n:Nat):F74 (n+1)=Fb74 (F74 n):=rfl
def q74:uAC:=veil fun ds=>F74 (aY ds) ds
theorem Xq:q74=fun ds=>F74 (aY ds) ds:=ai _
theorem sound74:aH env.P 74 S74 q74:=gM (fun q=>E6 q) (fun q hq=>MM q hq) Xq
def tb74:Tb:=Tb.addF Xk 74 S74 q74
theorem ok_tb74:TbOk env tb74:=TbOk.addF I3 (by kernel_rfl) sound74
def S47_3:LoopS:=⟨0,uF::uF::uF::ufP 0 0::uF::ufP 1 0::ufZ::ufP 2 0::uAA 9 (ufR 9::ufI::utI::uAA 25 []),[(.lst true 38),(.cells [ufR 65,ufN,ufO 3 38]),(.cells [ufR 9]),(.dat false 38)],[⟨0,0,uT::uT::uT::utP 0 0::uT::utP 1 0::utZ::utP 2 0::uAB 9 (ufR 9::ufI::uAB 26 []),[(.lst true 38),(.cells [ufR 65,utN,utO 3 38]),(.cells [ufR 9]),(.dat false 38)]⟩]⟩
def zF (p s:List D):Option (Sum (List D) (List D)):=aP env tb74 60 12 47 (bb 47 3) S47_3 p s
theorem Xr (pd0:D) (pn1:Int) (pd2:D) (pd3:D) (pd4:D) (sn0:Int) (sd1:D):zF [pd0,(D.int pn1),pd2,pd3,pd4] [(D.int sn0),sd1] =
 let y0:=bG sd1 (.list [(.agg [(.str (aB (ay pd0 sn0))),(.list []),(.list [])])])
 let x0:=ab .eql (ae sd1) (ae sd1)
 let x1:=ae y0
 let x2:=D.int pn1
 let x3:=D.int (aM .add .i64 sn0 1)
 bif ab .lss sn0 pn1 then gd (aS pd0 sn0)<|bif cI .neq (aB (ay pd0 sn0)) (aB (aa pd4 0))then gd x0<|gd (cA x1 64)<|gd (ab .eql x1 x1)<|ge pd0<|ge x2<|ge pd2<|ge pd3<|ge pd4<|some (Sum.inl [x3,y0])else gd x0<|ge pd0<|ge x2<|ge pd2<|ge pd3<|ge pd4<|some (Sum.inl [x3,sd1])else gd x0<|ge pd0<|ge x2<|ge pd2<|ge pd3<|ge pd4<|some (Sum.inr [.int 0,sd1]):=by kernel_rfl
def Ct:=by have h:= @Xr;simp only[aF,gd,am,ak,ao,au,ar,aE,aj]at h;exact h
def Xs:List D->uAC:=veil fun p s=>loW (zF p) s
theorem I6:Xs=fun p s=>loW (zF p) s:=ai _
def E7:Tb:=Tb.addL tb74 47 3 S47_3.n0 (bQ S47_3 (Xs))
theorem MN:TbOk env (E7):=aG ok_tb74 47 3 (by kernel_rfl) _ (I6)
def S47:FunS:=⟨[utD 38,utR 9,utR 9],[],[utI],[]⟩
def F47:uAC:=aO env E7 60 12 47 S47
theorem F47_e (sd0:D) (sd1:D) (sd2:D):F47 [sd0,sd1,sd2] =
 let y0:=ae (.list [(.agg [(.str (aB (aa sd0 0))),(aa sd0 1),(aa sd0 2)])])
 let y1:=Xs [sd2,(.int (ae sd2)),(ac (q40 [sd1]) 0),sd2,sd0] [(.int 0),(.list [(.agg [(.str (aB (aa sd0 0))),(aa sd0 1),(aa sd0 2)])])]
 let y2:=q111 [(.agg [(ac (q40 [sd1]) 0),(.list []),(ac y1 1)])]
 let y3:=q74 [sd2,(aa sd0 2),(.int 0)]
 let x0:=ae (ac y1 1)
 let x1:=ah (ac y2 0)
 gd (ap (q40 [sd1]))<|gd (ab .eql 1 y0)<|gd (ap y1)<|gd (ab .eql x0 x0)<|gd (ap y2)<|bif ab .neq x1 0 then some [.int x1]else gd (ap y3)<|some [.int (ah (ac y3 0))]:=by kernel_rfl
def F47_eq:=by have h:= @F47_e;simp only[aF,gd,am,ak,ao,au,ar,aE,aj]at h;exact h
def q47:uAC:=veil (F47)
theorem Xt:q47=F47:=ai _
def tb47:Tb:=Tb.addF E7 47 S47 (q47)
theorem ok_tb47:TbOk env (tb47):=aJ MN 47 (by kernel_rfl) _ (Xt)
def S122_2:LoopS:=⟨0,ufR 9::⟨false, .str⟩::uF::uF::ufZ::utI::uAA 13 [],[],[⟨0,0,ufR 9::⟨false, .str⟩::uT::uT::utZ::uAB 14 [],[]⟩,⟨1,0,ufR 9::⟨false, .str⟩::uT::uT::utI::uAB 14 [],[]⟩]⟩
def p7 (p s:List D):Option (Sum (List D) (List D)):=aP env tb47 60 12 122 (bb 122 2) S122_2 p s
theorem R4 (pd0:D) (ps1:ByteArray) (sn0:Int):p7 [pd0,(D.str ps1)] [(D.int sn0)] =
 let x0:=D.str ps1
 bif ab .lss sn0 (ae pd0)then gd (aS pd0 sn0)<|bif cI .eql (aB (ay pd0 sn0)) ps1 then ge pd0<|ge x0<|some (Sum.inr [.int 1,.int sn0])else ge pd0<|ge x0<|some (Sum.inl [.int (aM .add .i64 sn0 1)])else ge pd0<|ge x0<|some (Sum.inr [.int 0]):=by kernel_rfl
def zG:=by have h:= @R4;simp only[aF,gd,am,ak,ao,au,ar,aE,aj]at h;exact h
def MO:List D->uAC:=veil fun p s=>loW (p7 p) s
theorem Cu:MO=fun p s=>loW (p7 p) s:=ai _
def zH:Tb:=Tb.addL tb47 122 2 S122_2.n0 (bQ S122_2 (MO))
theorem I7:TbOk env (zH):=aG ok_tb47 122 2 (by kernel_rfl) _ (Cu)
def S122:FunS:=⟨[utR 9,⟨true, .str⟩],[],[utI],[]⟩
def F122:uAC:=aO env zH 60 12 122 S122
theorem F122_e (sd0:D) (ss1:ByteArray):F122 [sd0,(D.str ss1)] =
 let y0:=MO [sd0,(.str ss1)] [(.int 0)]
 gd (ap y0)<|bif ab .eql (ah (ac y0 0)) 0 then some [.int (-1)]else some [.int (ah (ac y0 1))]:=by kernel_rfl
def F122_eq:=by have h:= @F122_e;simp only[aF,gd,am,ak,ao,au,ar,aE,aj]at h;exact h
def Xu:uAC:=veil (F122)
theorem Pk:Xu=F122:=ai _
def Xv:Tb:=Tb.addF zH 122 S122 (Xu)
theorem I8:TbOk env (Xv):=aJ I7 122 (by kernel_rfl) _ (Pk)
def MP:FunS:=⟨[utR 187,utR 9],[],[utB],[]⟩
def MQ (Q:uAC):Tb:=Tb.addF Xv 121 MP Q
theorem R5 (Q:uAC) (hQ:aH env.P 121 MP Q):TbOk env (MQ Q):=TbOk.addF I8 (by kernel_rfl) hQ
def S121_8:LoopS:=⟨0,ufR 187::ufR 9::uF::uF::ufS (.lit (.bool false))::ufI::ufP 0 0::utI::uAA 49 [],[(.dat false 187)],[⟨0,2,ufR 187::ufR 9::uT::uT::utS (.lit (.bool false))::ufI::uAB 51 [],[(.dat false 187)]⟩,⟨1,0,ufR 187::ufR 9::uT::uT::utS (.lit (.bool false))::ufI::uAB 51 [],[(.dat false 187)]⟩]⟩
def uY (Q:uAC) (p s:List D):Option (Sum (List D) (List D)):=aP env (MQ Q) 60 12 121 (bb 121 8) S121_8 p s
theorem R6 (Q:uAC) (pd0:D) (pd1:D) (pn2:Int) (pd3:D) (sn0:Int):uY Q [pd0,pd1,(D.int pn2),pd3] [(D.int sn0)] =
 let x0:=aa pd3 6
 let x1:=Q [ay x0 sn0,pd1]
 let x2:=D.int pn2
 bif ab .lss sn0 (ae x0)then gd (aS x0 sn0)<|gd (ap x1)<|bif bU (aQ (ac x1 0))then ge pd0<|ge pd1<|ge x2<|ge pd3<|some (Sum.inr [.int 1])else ge pd0<|ge pd1<|ge x2<|ge pd3<|some (Sum.inl [.int (aM .add .i64 sn0 1)])else ge pd0<|ge pd1<|ge x2<|ge pd3<|some (Sum.inr [.int 0]):=by kernel_rfl
def MR:=by have h:= @R6;simp only[aF,gd,am,ak,ao,au,ar,aE,aj]at h;exact h
def MS (Q:uAC):List D->uAC:=veil fun p s=>loW (uY Q p) s
theorem Cv (Q:uAC):MS Q=fun p s=>loW (uY Q p) s:=ai _
def zI (Q:uAC):Tb:=Tb.addL (MQ Q) 121 8 S121_8.n0 (bQ S121_8 (MS Q))
theorem I9 (Q:uAC) (hQ:aH env.P 121 MP Q):TbOk env (zI Q):=aG (R5 Q hQ) 121 8 (by kernel_rfl) _ (Cv Q)
def S121_2:LoopS:=⟨0,ufR 187::ufR 9::uF::uF::ufS (.lit (.bool false))::utI::uAA 51 [],[],[⟨0,0,ufR 187::ufR 9::uT::uT::utS (.lit (.bool false))::uAB 52 [],[]⟩,⟨1,0,ufR 187::ufR 9::uT::uT::utS (.lit (.bool false))::uAB 52 [],[]⟩]⟩
def uZ (Q:uAC) (p s:List D):Option (Sum (List D) (List D)):=aP env (zI Q) 60 12 121 (bb 121 2) S121_2 p s
theorem R7 (Q:uAC) (pd0:D) (pd1:D) (sn0:Int):uZ Q [pd0,pd1] [(D.int sn0)] =
 let y0:=Xu [pd1,(.str (aB (aa (ay pd0 sn0) 2)))]
 let y1:=aw (ab .eql (ah (aa (ay pd0 sn0) 0)) 5) (ap y0) true
 let y2:=aw (ab .eql (ah (aa (ay pd0 sn0) 0)) 5) (ab .lss (ah (ac y0 0)) 0) false
 let y3:=aw y2 true (ap (Q [(aa (ay pd0 sn0) 4),pd1]))
 let y4:=aw y2 true (bU (aQ (ac (Q [(aa (ay pd0 sn0) 4),pd1]) 0)))
 let y5:=aw y4 true (ap (Q [(aa (ay pd0 sn0) 5),pd1]))
 let y6:=aw y4 true (bU (aQ (ac (Q [(aa (ay pd0 sn0) 5),pd1]) 0)))
 let y7:=MS Q [pd0,pd1,(.int sn0),(ay pd0 sn0)] [(.int 0)]
 let x0:Option (List D ⊕ List D):=ge pd0<|ge pd1<|some (Sum.inr [.int 1])
 bif ab .lss sn0 (ae pd0)then gd (aS pd0 sn0)<|gd y1<|gd y3<|gd y5<|bif y6 then x0 else gd (ap y7)<|bif ab .eql (ah (ac y7 0)) 0 then ge pd0<|ge pd1<|some (Sum.inl [.int (aM .add .i64 sn0 1)])else x0 else ge pd0<|ge pd1<|some (Sum.inr [.int 0]):=by kernel_rfl
def zJ:=by have h:= @R7;simp only[aF,gd,am,ak,ao,au,ar,aE,aj]at h;exact h
def MT (Q:uAC):List D->uAC:=veil fun p s=>loW (uZ Q p) s
theorem Cw (Q:uAC):MT Q=fun p s=>loW (uZ Q p) s:=ai _
def zK (Q:uAC):Tb:=Tb.addL (zI Q) 121 2 S121_2.n0 (bQ S121_2 (MT Q))
theorem Ja (Q:uAC) (hQ:aH env.P 121 MP Q):TbOk env (zK Q):=aG (I9 Q hQ) 121 2 (by kernel_rfl) _ (Cw Q)
def Xw (Q:uAC):uAC:=aO env (zK Q) 60 12 121 MP
theorem Fb121_e (Q:uAC) (sd0:D) (sd1:D):Xw Q [sd0,sd1] =
 let y0:=MT Q [sd0,sd1] [(.int 0)]
 gd (ap y0)<|bif ab .eql (ah (ac y0 0)) 0 then some [.bool true]else some [.bool false]:=by kernel_rfl
def Xx:=by have h:= @Fb121_e;simp only[aF,gd,am,ak,ao,au,ar,aE,aj]at h;exact h
def E8:Nat->uAC:=levels Xw
theorem F121_s (n:Nat):E8 (n+1)=Xw (E8 n):=rfl
def Xy:uAC:=veil fun ds=>E8 (aY ds) ds
theorem Pl:Xy=fun ds=>E8 (aY ds) ds:=ai _
theorem Xz:aH env.P 121 MP Xy:=gM (fun q=>zK q) (fun q hq=>Ja q hq) Pl
def XA:Tb:=Tb.addF Xv 121 MP Xy
theorem XB:TbOk env XA:=TbOk.addF I8 (by kernel_rfl) Xz
def S61_3:LoopS:=⟨0,uF::uF::ufR 9::ufP 0 0::uF::uF::ufZ::ufP 1 0::utI::uAA 41 [],[(.lst true 38),(.cells [ufR 65,ufN,ufO 2 38]),(.dat false 38)],[⟨0,0,uT::uT::ufR 9::utP 0 0::uT::uT::utZ::utP 1 0::uAB 42 [],[(.lst true 38),(.cells [ufR 65,utN,utO 2 38]),(.dat false 38)]⟩]⟩
def zL (p s:List D):Option (Sum (List D) (List D)):=aP env XA 60 12 61 (bb 61 3) S61_3 p s
theorem XC (pd0:D) (pd1:D) (pd2:D) (sn0:Int) (sd1:D):zL [pd0,pd1,pd2] [(D.int sn0),sd1] =
 let y0:=bG sd1 (.list [(.agg [(.str (aB (ay pd0 sn0))),(.list []),(.list [])])])
 let x0:=aS pd0 sn0
 let x1:=ab .eql (ae sd1) (ae sd1)
 let x2:=ae y0
 let x3:=D.int (aM .add .i64 sn0 1)
 bif ab .lss sn0 (ae pd0)then gd x0<|bif cI .neq (aB (ay pd0 sn0)) (aB (aa pd2 0))then gd x0<|gd x1<|gd (cA x2 64)<|gd (ab .eql x2 x2)<|ge pd0<|ge pd1<|ge pd2<|some (Sum.inl [x3,y0])else gd x1<|ge pd0<|ge pd1<|ge pd2<|some (Sum.inl [x3,sd1])else gd x1<|ge pd0<|ge pd1<|ge pd2<|some (Sum.inr [.int 0,sd1]):=by kernel_rfl
def Cx:=by have h:= @XC;simp only[aF,gd,am,ak,ao,au,ar,aE,aj]at h;exact h
def XD:List D->uAC:=veil fun p s=>loW (zL p) s
theorem Jb:XD=fun p s=>loW (zL p) s:=ai _
def E9:Tb:=Tb.addL XA 61 3 S61_3.n0 (bQ S61_3 (XD))
theorem MU:TbOk env (E9):=aG XB 61 3 (by kernel_rfl) _ (Jb)
def S61:FunS:=⟨[utD 38,utR 9,utR 9],[],[utI],[]⟩
def F61:uAC:=aO env E9 60 12 61 S61
theorem F61_e (sd0:D) (sd1:D) (sd2:D):F61 [sd0,sd1,sd2] =
 let y0:=ae (.list [(.agg [(.str (aB (aa sd0 0))),(aa sd0 1),(aa sd0 2)])])
 let y1:=XD [sd2,(ac (q44 [sd1]) 0),sd0] [(.int 0),(.list [(.agg [(.str (aB (aa sd0 0))),(aa sd0 1),(aa sd0 2)])])]
 let y2:=q120 [(.agg [(ac (q44 [sd1]) 0),(.list []),(ac y1 1)])]
 let y3:=ap (Xy [(aa sd0 2),sd2])
 let y4:=ac (Xy [(aa sd0 2),sd2]) 0
 let y5:=aw (ab .eql (ah (ac y2 0)) 0) (bU (aQ y4)) false
 let x0:=ae (ac y1 1)
 let x1:=ah (ac y2 0)
 gd (ap (q44 [sd1]))<|gd (ab .eql 1 y0)<|gd (ap y1)<|gd (ab .eql x0 x0)<|gd (ap y2)<|gd (aw (ab .eql x1 0) y3 true)<|bif y5 then some [.int 17]else some [.int x1]:=by kernel_rfl
def F61_eq:=by have h:= @F61_e;simp only[aF,gd,am,ak,ao,au,ar,aE,aj]at h;exact h
def q61:uAC:=veil (F61)
theorem XE:q61=F61:=ai _
def tb61:Tb:=Tb.addF E9 61 S61 (q61)
theorem Pm:TbOk env (tb61):=aJ MU 61 (by kernel_rfl) _ (XE)
def S115:FunS:=⟨[utP 0 1,utR 106],[(.lst false 106),(.lst false 106),(.mp false 9 106),(.mp false 106 3),(.lst true 106),(.lst false 46),(.cells [ufO 1 46,ufO 2 106,ufS (.map 3),ufS (.map 4),ufI,ufR 9,ufR 9,ufS (.int .u32),ufI,ufO 5 106,ufO 6 106])],[utS (.tup [])],[(.lst true 106),(.lst false 106),(.lst false 106),(.mp false 9 106),(.mp false 106 3), .skip,(.lst false 46),(.cells [utO 1 46,utO 7 106,utS (.map 3),utS (.map 4),ufI,ufR 9,ufR 9,ufS (.int .u32),ufI,utO 5 106,utO 6 106])]⟩
def F115:uAC:=aO env tb61 60 12 115 S115
theorem F115_e (pd0:D) (pd1:D) (pd2:D) (pd3:D) (pd4:D) (pn5:Int) (pd6:D) (pd7:D) (pn8:Int) (pn9:Int) (sd0:D) (sd1:D):F115 [pd0,pd1,pd2,pd3,pd4,(D.int pn5),pd6,pd7,(D.int pn8),(D.int pn9),sd0,sd1] =
 let x0:=bG sd1 sd0
 let x1:=ae x0
 gd (ab .eql (ae sd1) (ae sd1))<|gd (cA x1 8)<|gd (ab .eql (ae pd4) (ae pd4))<|gd (ab .eql x1 x1)<|gd (ab .eql (ae pd1) (ae pd1))<|gd (ab .eql (ae pd0) (ae pd0))<|ge pd0<|ge pd1<|ge pd2<|ge pd3<|ge pd4<|ge (.int pn5)<|ge pd6<|ge pd7<|ge (.int pn8)<|ge (.int pn9)<|some [x0]:=by kernel_rfl
def F115_eq:=by have h:= @F115_e;simp only[aF,gd,am,ak,ao,au,ar,aE,aj]at h;exact h
def Jc:uAC:=veil (F115)
theorem Pn:Jc=F115:=ai _
def XF:Tb:=Tb.addF tb61 115 S115 (Jc)
theorem XG:TbOk env (XF):=aJ Pm 115 (by kernel_rfl) _ (Pn)
def S114:FunS:=⟨[utP 0 0,utR 46],[(.lst false 106),(.lst false 106),(.mp false 9 106),(.mp false 106 3),(.lst false 106),(.lst true 46),(.cells [ufO 1 46,ufO 2 106,ufS (.map 3),ufS (.map 4),ufI,ufR 9,ufR 9,ufS (.int .u32),ufI,ufO 5 106,ufO 6 106])],[utS (.tup [])],[(.lst true 46),(.lst false 106),(.lst false 106),(.mp false 9 106),(.mp false 106 3),(.lst false 106), .skip,(.cells [utO 7 46,utO 2 106,utS (.map 3),utS (.map 4),ufI,ufR 9,ufR 9,ufS (.int .u32),ufI,utO 5 106,utO 6 106])]⟩
def F114:uAC:=aO env XF 60 12 114 S114
theorem F114_e (pd0:D) (pd1:D) (pd2:D) (pd3:D) (pd4:D) (pn5:Int) (pd6:D) (pd7:D) (pn8:Int) (pn9:Int) (sd0:D) (sd1:D):F114 [pd0,pd1,pd2,pd3,pd4,(D.int pn5),pd6,pd7,(D.int pn8),(D.int pn9),sd0,sd1] =
 let x0:=bG sd1 sd0
 let x1:=ae x0
 gd (ab .eql (ae sd1) (ae sd1))<|gd (cA x1 64)<|gd (ab .eql x1 x1)<|gd (ab .eql (ae pd4) (ae pd4))<|gd (ab .eql (ae pd1) (ae pd1))<|gd (ab .eql (ae pd0) (ae pd0))<|ge pd0<|ge pd1<|ge pd2<|ge pd3<|ge pd4<|ge (.int pn5)<|ge pd6<|ge pd7<|ge (.int pn8)<|ge (.int pn9)<|some [x0]:=by kernel_rfl
def F114_eq:=by have h:= @F114_e;simp only[aF,gd,am,ak,ao,au,ar,aE,aj]at h;exact h
def R8:uAC:=veil (F114)
theorem Po:R8=F114:=ai _
def XH:Tb:=Tb.addF XF 114 S114 (R8)
theorem XI:TbOk env (XH):=aJ XG 114 (by kernel_rfl) _ (Po)
def S50_1:LoopS:=⟨7,ufP 0 0::uAA 5 (ufR 46::ufI::utI::uAA 15 []),[(.lst true 106),(.lst true 46),(.lst false 106),(.lst false 106),(.mp false 9 106),(.mp false 106 3), .skip, .skip,(.cells [ufO 7 46,ufO 8 106,ufS (.map 3),ufS (.map 4),ufI,ufR 9,ufR 9,ufS (.int .u32),ufI,ufO 5 106,ufO 6 106])],[⟨0,0,uAB 6 (ufR 46::ufI::uAB 16 []),[(.lst true 106),(.lst true 46),(.lst false 106),(.lst false 106),(.mp false 9 106),(.mp false 106 3), .skip, .skip,(.cells [utO 7 46,utO 8 106,utS (.map 3),utS (.map 4),ufI,ufR 9,ufR 9,ufS (.int .u32),ufI,utO 5 106,utO 6 106])]⟩]⟩
def Fa (p s:List D):Option (Sum (List D) (List D)):=aP env XH 60 12 50 (bb 50 1) S50_1 p s
theorem XJ (pd0:D) (pn1:Int) (pd2:D) (pd3:D) (pd4:D) (pd5:D) (pn6:Int) (pd7:D) (pd8:D) (pn9:Int) (pn10:Int) (sn0:Int) (sd1:D) (sd2:D):Fa [pd0,(D.int pn1),pd2,pd3,pd4,pd5,(D.int pn6),pd7,pd8,(D.int pn9),(D.int pn10)] [(D.int sn0),sd1,sd2] =
 let y0:=R8 [pd2,pd3,pd4,pd5,sd1,(.int pn6),pd7,pd8,(.int pn9),(.int pn10),(.list [(.agg [(.int (ah (aa (ay pd0 sn0) 0))),(.int (ah (aa (ay pd0 sn0) 1))),(.int (ah (aa (ay pd0 sn0) 2))),(.int (ah (aa (ay pd0 sn0) 3))),(.int (ah (aa (ay pd0 sn0) 4))),(.int (ah (aa (ay pd0 sn0) 5))),(.int (ah (aa (ay pd0 sn0) 6))),(.int (ah (aa (ay pd0 sn0) 7))),(.int (ah (aa (ay pd0 sn0) 8)))])]),sd2]
 let y1:=Jc [pd2,pd3,pd4,pd5,(ac y0 0),(.int pn6),pd7,pd8,(.int pn9),(.int pn10),(.list [(.int (-1))]),sd1]
 let x0:=ab .eql (ae sd2) (ae sd2)
 let x1:=ab .eql (ae sd1) (ae sd1)
 let x2:=ab .eql (ae pd3) (ae pd3)
 let x3:=ab .eql (ae pd2) (ae pd2)
 let x4:=ab .eql (ae (ac y0 0)) (ae (ac y0 0))
 bif ab .lss sn0 pn1 then gd (aS pd0 sn0)<|gd x0<|gd x1<|gd x2<|gd x3<|gd (ap y0)<|gd x4<|gd x1<|gd x2<|gd x3<|gd (ap y1)<|gd x4<|gd (ab .eql (ae (ac y1 0)) (ae (ac y1 0)))<|gd x2<|gd x3<|ge pd0<|ge (.int pn1)<|ge pd2<|ge pd3<|ge pd4<|ge pd5<|ge (.int pn6)<|ge pd7<|ge pd8<|ge (.int pn9)<|ge (.int pn10)<|some (Sum.inl [.int (aM .add .i64 sn0 1),ac y1 0,ac y0 0])else gd x0<|gd x1<|gd x2<|gd x3<|ge pd0<|ge (.int pn1)<|ge pd2<|ge pd3<|ge pd4<|ge pd5<|ge (.int pn6)<|ge pd7<|ge pd8<|ge (.int pn9)<|ge (.int pn10)<|some (Sum.inr [.int 0,sd1,sd2]):=by kernel_rfl
def Cy:=by have h:= @XJ;simp only[aF,gd,am,ak,ao,au,ar,aE,aj]at h;exact h
def Pp:List D->uAC:=veil fun p s=>loW (Fa p) s
theorem Jd:Pp=fun p s=>loW (Fa p) s:=ai _
def Fb:Tb:=Tb.addL XH 50 1 S50_1.n0 (bQ S50_1 (Pp))
theorem MV:TbOk env (Fb):=aG XI 50 1 (by kernel_rfl) _ (Jd)
def S50:FunS:=⟨[utP 0 0,utR 46],[(.lst false 106),(.lst false 106),(.mp false 9 106),(.mp false 106 3),(.lst true 106),(.lst true 46),(.cells [ufO 1 46,ufO 2 106,ufS (.map 3),ufS (.map 4),ufI,ufR 9,ufR 9,ufS (.int .u32),ufI,ufO 5 106,ufO 6 106])],[utS (.tup [])],[(.lst true 106),(.lst true 46),(.lst false 106),(.lst false 106),(.mp false 9 106),(.mp false 106 3), .skip, .skip,(.cells [utO 7 46,utO 8 106,utS (.map 3),utS (.map 4),ufI,ufR 9,ufR 9,ufS (.int .u32),ufI,utO 5 106,utO 6 106])]⟩
def F50:uAC:=aO env Fb 60 12 50 S50
theorem F50_e (pd0:D) (pd1:D) (pd2:D) (pd3:D) (pn4:Int) (pd5:D) (pd6:D) (pn7:Int) (pn8:Int) (sd0:D) (sd1:D) (sd2:D):F50 [pd0,pd1,pd2,pd3,(D.int pn4),pd5,pd6,(D.int pn7),(D.int pn8),sd0,sd1,sd2] =
 let y0:=Pp [sd0,(.int (ae sd0)),pd0,pd1,pd2,pd3,(.int pn4),pd5,pd6,(.int pn7),(.int pn8)] [(.int 0),sd1,sd2]
 let x0:=ab .eql (ae pd1) (ae pd1)
 let x1:=ab .eql (ae pd0) (ae pd0)
 gd (ab .eql (ae sd2) (ae sd2))<|gd (ab .eql (ae sd1) (ae sd1))<|gd x0<|gd x1<|gd (ap y0)<|gd (ab .eql (ae (ac y0 2)) (ae (ac y0 2)))<|gd (ab .eql (ae (ac y0 1)) (ae (ac y0 1)))<|gd x0<|gd x1<|ge pd0<|ge pd1<|ge pd2<|ge pd3<|ge (.int pn4)<|ge pd5<|ge pd6<|ge (.int pn7)<|ge (.int pn8)<|some [ac y0 1,ac y0 2]:=by kernel_rfl
def F50_eq:=by have h:= @F50_e;simp only[aF,gd,am,ak,ao,au,ar,aE,aj]at h;exact h
def q50:uAC:=veil (F50)
theorem XK:q50=F50:=ai _
def tb50:Tb:=Tb.addF Fb 50 S50 (q50)
theorem ok_tb50:TbOk env (tb50):=aJ MV 50 (by kernel_rfl) _ (XK)
def S51:FunS:=⟨[utP 0 0,⟨true, .str⟩],[(.lst false 106),(.lst false 106),(.mp false 9 106),(.mp false 106 3),(.lst false 106),(.lst false 46),(.cells [ufO 1 46,ufO 2 106,ufS (.map 3),ufS (.map 4),ufI,ufR 9,ufR 9,ufS (.int .u32),ufI,ufO 5 106,ufO 6 106])],[utD 46],[(.lst false 106),(.lst false 106),(.mp false 9 106),(.mp false 106 3),(.lst false 106),(.lst false 46),(.cells [utO 1 46,utO 2 106,utS (.map 3),utS (.map 4),ufI,ufR 9,ufR 9,ufS (.int .u32),ufI,utO 5 106,utO 6 106])]⟩
def F51:uAC:=aO env tb50 60 12 51 S51
theorem F51_e (pd0:D) (pd1:D) (pd2:D) (pd3:D) (pd4:D) (pd5:D) (pn6:Int) (pd7:D) (pd8:D) (pn9:Int) (pn10:Int) (ss0:ByteArray):F51 [pd0,pd1,pd2,pd3,pd4,pd5,(D.int pn6),pd7,pd8,(D.int pn9),(D.int pn10),(D.str ss0)] =
 let y0:=ap (A3 [pd7,(.str ss0)])
 let y1:=ac (A3 [pd7,(.str ss0)]) 0
 let y2:=aM .add .u32 pn9 (aM .mul .u32 4 (fA .u32 (ah y1)))
 let x0:=D.int 0
 gd y0<|gd (ab .eql (ae pd5) (ae pd5))<|gd (ab .eql (ae pd4) (ae pd4))<|gd (ab .eql (ae pd1) (ae pd1))<|gd (ab .eql (ae pd0) (ae pd0))<|ge pd0<|ge pd1<|ge pd2<|ge pd3<|ge pd4<|ge pd5<|ge (.int pn6)<|ge pd7<|ge pd8<|ge (.int pn9)<|ge (.int pn10)<|some [.agg [x0,.int y2,.int 5,.int 2,x0,x0,.int 2,x0,x0]]:=by kernel_rfl
def XL:=by have h:= @F51_e;simp only[aF,gd,am,ak,ao,au,ar,aE,aj]at h;exact h
def q51:uAC:=veil (F51)
theorem MW:q51=F51:=ai _
def tb51:Tb:=Tb.addF tb50 51 S51 (q51)
theorem ok_tb51:TbOk env (tb51):=aJ ok_tb50 51 (by kernel_rfl) _ (MW)
def S103:FunS:=⟨[utI],[],[utS (.tup [(.int .i64), .bool])],[]⟩
def F103:uAC:=aO env tb51 60 12 103 S103
theorem F103_e (sn0:Int):F103 [(D.int sn0)] =
 let x0:=D.bool true
 bif ab .eql sn0 3 then some [.int 6,x0]else bif ab .eql sn0 4 then some [.int 7,x0]else bif ab .eql sn0 5 then some [.int 11,x0]else bif ab .eql sn0 6 then some [.int 8,x0]else bif ab .eql sn0 7 then some [.int 9,x0]else bif ab .eql sn0 8 then some [.int 10,x0]else bif ab .eql sn0 9 then some [.int 12,x0]else bif ab .eql sn0 10 then some [.int 13,x0]else bif ab .eql sn0 11 then some [.int 14,x0]else some [.int 0,.bool false]:=by kernel_rfl
def F103_eq:=by have h:= @F103_e;simp only[aF,gd,am,ak,ao,au,ar,aE,aj]at h;exact h
def q103:uAC:=veil (F103)
theorem Pq:q103=F103:=ai _
def XM:Tb:=Tb.addF tb51 103 S103 (q103)
theorem XN:TbOk env (XM):=aJ ok_tb51 103 (by kernel_rfl) _ (Pq)
def S104:FunS:=⟨[utI],[],[utI],[]⟩
def F104:uAC:=aO env XM 60 12 104 S104
theorem F104_eq (sn0:Int):F104 [(D.int sn0)] =
 bif (ab BinOp.eql sn0 12)then
  some [(D.int 1)]
 else
  bif (ab BinOp.eql sn0 13)then
   some [(D.int 2)]
  else
   bif (ab BinOp.eql sn0 14)then
    some [(D.int 3)]
   else
    some [(D.int 7)]:=by kernel_rfl
def q104:uAC:=veil (F104)
theorem Pr:q104=F104:=ai _
def XO:Tb:=Tb.addF XM 104 S104 (q104)
theorem Je:TbOk env (XO):=aJ XN 104 (by kernel_rfl) _ (Pr)
def S42:FunS:=⟨[utP 0 0,utD 25],[(.lst false 106),(.lst false 106),(.mp false 9 106),(.mp false 106 3),(.lst true 106),(.lst true 46),(.cells [ufO 1 46,ufO 2 106,ufS (.map 3),ufS (.map 4),ufI,ufR 9,ufR 9,ufS (.int .u32),ufI,ufO 5 106,ufO 6 106])],[utS (.tup [])],[(.lst true 106),(.lst true 46),(.lst false 106),(.lst false 106),(.mp false 9 106),(.mp false 106 3), .skip, .skip,(.cells [utO 7 46,utO 8 106,utS (.map 3),utS (.map 4),ufI,ufR 9,ufR 9,ufS (.int .u32),ufI,utO 5 106,utO 6 106])]⟩
def XP (Q:uAC):Tb:=Tb.addF XO 42 S42 Q
theorem XQ (Q:uAC) (hQ:aH env.P 42 S42 Q):TbOk env (XP Q):=TbOk.addF Je (by kernel_rfl) hQ
def Fb42 (Q:uAC):uAC:=aO env (XP Q) 60 12 42 S42
theorem Fb42_e (Q:uAC) (pd0:D) (pd1:D) (pd2:D) (pd3:D) (pn4:Int) (pd5:D) (pd6:D) (pn7:Int) (pn8:Int) (sd0:D) (sd1:D) (sd2:D):Fb42 Q [pd0,pd1,pd2,pd3,(D.int pn4),pd5,pd6,(D.int pn7),(D.int pn8),sd0,sd1,sd2] =
 let y0:=q50 [pd0,pd1,pd2,pd3,(.int pn4),pd5,pd6,(.int pn7),(.int pn8),(.list [(.agg [(.int 0),(.int (ah (aa sd0 1))),(.int 5),(.int 2),(.int 0),(.int 0),(.int 0),(.int 0),(.int 0)])]),sd1,sd2]
 let y1:=q51 [pd0,pd1,pd2,pd3,sd1,sd2,(.int pn4),pd5,pd6,(.int pn7),(.int pn8),(.str (aB (aa sd0 2)))]
 let y2:=q50 [pd0,pd1,pd2,pd3,(.int pn4),pd5,pd6,(.int pn7),(.int pn8),(.list [(.agg [(.int (ah (aa (ac y1 0) 0))),(.int (ah (aa (ac y1 0) 1))),(.int (ah (aa (ac y1 0) 2))),(.int (ah (aa (ac y1 0) 3))),(.int (ah (aa (ac y1 0) 4))),(.int (ah (aa (ac y1 0) 5))),(.int (ah (aa (ac y1 0) 6))),(.int (ah (aa (ac y1 0) 7))),(.int (ah (aa (ac y1 0) 8)))]),(.agg [(.int 0),(.int 0),(.int 16),(.int 0),(.int 4),(.int 0),(.int 0),(.int 2),(.int 0)])]),sd1,sd2]
 let y3:=ap (Q [pd0,pd1,pd2,pd3,(.int pn4),pd5,pd6,(.int pn7),(.int pn8),(ay (aa sd0 4) 0),sd1,sd2])
 let y4:=ac (Q [pd0,pd1,pd2,pd3,(.int pn4),pd5,pd6,(.int pn7),(.int pn8),(ay (aa sd0 4) 0),sd1,sd2]) 1
 let y5:=ac (Q [pd0,pd1,pd2,pd3,(.int pn4),pd5,pd6,(.int pn7),(.int pn8),(ay (aa sd0 4) 0),sd1,sd2]) 0
 let y6:=q50 [pd0,pd1,pd2,pd3,(.int pn4),pd5,pd6,(.int pn7),(.int pn8),(.list [(.agg [(.int 0),(.int 0),(.int 15),(.int 1),(.int 0),(.int 0),(.int 0),(.int 0),(.int 0)]),(.agg [(.int 0),(.int 0),(.int 25),(.int 0),(.int 0),(.int 1),(.int 0),(.int 0),(.int 0)])]),y5,y4]
 let y7:=q50 [pd0,pd1,pd2,pd3,(.int pn4),pd5,pd6,(.int pn7),(.int pn8),(.list [(.agg [(.int 0),(.int 0),(.int 5),(.int 0),(.int 0),(.int 0),(.int 1),(.int 0),(.int 0)]),(.agg [(.int 0),(.int 0),(.int 5),(.int 1),(.int 0),(.int 0),(.int 0),(.int 0),(.int 0)]),(.agg [(.int 0),(.int 0),(.int 7),(.int 0),(.int 0),(.int 0),(.int 0),(.int 1),(.int 0)])]),y5,y4]
 let y8:=q50 [pd0,pd1,pd2,pd3,(.int pn4),pd5,pd6,(.int pn7),(.int pn8),(.list [(.agg [(.int 0),(.int 0),(.int 16),(.int 0),(.int (ah (aa sd0 3))),(.int 0),(.int 0),(.int 0),(.int 0)])]),y5,y4]
 let y9:=aM .sub .i64 32 (aM .mul .i64 8 (ah (aa sd0 3)))
 let y10:=q50 [pd0,pd1,pd2,pd3,(.int pn4),pd5,pd6,(.int pn7),(.int pn8),(.list [(.agg [(.int 0),(.int (fA .u32 y9)),(.int 12),(.int 1),(.int 0),(.int 0),(.int 0),(.int 0),(.int 0)]),(.agg [(.int 0),(.int (fA .u32 y9)),(.int 14),(.int 1),(.int 0),(.int 0),(.int 0),(.int 0),(.int 0)])]),y5,y4]
 let y11:=q50 [pd0,pd1,pd2,pd3,(.int pn4),pd5,pd6,(.int pn7),(.int pn8),(.list [(.agg [(.int 0),(.int 0),(.int 3),(.int 0),(.int 0),(.int 0),(.int 0),(.int 0),(.int 0)])]),y5,y4]
 let y12:=ap (Q [pd0,pd1,pd2,pd3,(.int pn4),pd5,pd6,(.int pn7),(.int pn8),(ay (aa sd0 4) 1),(ac y11 0),(ac y11 1)])
 let y13:=ac (Q [pd0,pd1,pd2,pd3,(.int pn4),pd5,pd6,(.int pn7),(.int pn8),(ay (aa sd0 4) 1),(ac y11 0),(ac y11 1)]) 1
 let y14:=ac (Q [pd0,pd1,pd2,pd3,(.int pn4),pd5,pd6,(.int pn7),(.int pn8),(ay (aa sd0 4) 1),(ac y11 0),(ac y11 1)]) 0
 let y15:=q50 [pd0,pd1,pd2,pd3,(.int pn4),pd5,pd6,(.int pn7),(.int pn8),(.list [(.agg [(.int 0),(.int 0),(.int 5),(.int 0),(.int 0),(.int 0),(.int 1),(.int 0),(.int 0)]),(.agg [(.int 0),(.int 0),(.int 4),(.int 0),(.int 0),(.int 0),(.int 0),(.int 0),(.int 0)])]),y14,y13]
 let y16:=q103 [(.int (ah (aa sd0 0)))]
 let y17:=q50 [pd0,pd1,pd2,pd3,(.int pn4),pd5,pd6,(.int pn7),(.int pn8),(.list [(.agg [(.int 0),(.int 0),(.int (ah (ac y16 0))),(.int 0),(.int 0),(.int 0),(.int 0),(.int 1),(.int 0)])]),(ac y15 0),(ac y15 1)]
 let y18:=q104 [(.int (ah (aa sd0 0)))]
 let y19:=q50 [pd0,pd1,pd2,pd3,(.int pn4),pd5,pd6,(.int pn7),(.int pn8),(.list [(.agg [(.int 0),(.int 0),(.int 15),(.int 0),(.int 0),(.int 0),(.int 0),(.int 1),(.int 0)]),(.agg [(.int 0),(.int 0),(.int 25),(.int 0),(.int 0),(.int (ah (ac y18 0))),(.int 0),(.int 0),(.int 0)])]),(ac y15 0),(ac y15 1)]
 let x0:=ah (aa sd0 0)
 let x1:=ab .eql (ae sd2) (ae sd2)
 let x2:=ab .eql (ae sd1) (ae sd1)
 let x3:=ab .eql (ae pd1) (ae pd1)
 let x4:=ab .eql (ae pd0) (ae pd0)
 let x5:=D.int pn4
 let x6:=D.int pn7
 let x7:=D.int pn8
 let x8:=ab .eql (ae y4) (ae y4)
 let x9:=ab .eql (ae y5) (ae y5)
 let x10:=ae (ac y11 1)
 let x11:=ae (ac y11 0)
 let x12:=ae (ac y15 1)
 let x13:=ab .eql x12 x12
 let x14:=ae (ac y15 0)
 let x15:=ab .eql x14 x14
 bif ab .eql x0 1 then gd x1<|gd x2<|gd x3<|gd x4<|gd (ap y0)<|gd (ab .eql (ae (ac y0 1)) (ae (ac y0 1)))<|gd (ab .eql (ae (ac y0 0)) (ae (ac y0 0)))<|gd x3<|gd x4<|ge pd0<|ge pd1<|ge pd2<|ge pd3<|ge x5<|ge pd5<|ge pd6<|ge x6<|ge x7<|some [ac y0 0,ac y0 1]else bif ab .eql x0 2 then gd x1<|gd x2<|gd x3<|gd x4<|gd (ap y1)<|gd x1<|gd x2<|gd x3<|gd x4<|gd (ap y2)<|gd (ab .eql (ae (ac y2 1)) (ae (ac y2 1)))<|gd (ab .eql (ae (ac y2 0)) (ae (ac y2 0)))<|gd x3<|gd x4<|ge pd0<|ge pd1<|ge pd2<|ge pd3<|ge x5<|ge pd5<|ge pd6<|ge x6<|ge x7<|some [ac y2 0,ac y2 1]else gd (aS (aa sd0 4) 0)<|gd x1<|gd x2<|gd x3<|gd x4<|gd y3<|bif ab .eql x0 16 then gd x8<|gd x9<|gd x3<|gd x4<|gd (ap y6)<|gd (ab .eql (ae (ac y6 1)) (ae (ac y6 1)))<|gd (ab .eql (ae (ac y6 0)) (ae (ac y6 0)))<|gd x3<|gd x4<|ge pd0<|ge pd1<|ge pd2<|ge pd3<|ge x5<|ge pd5<|ge pd6<|ge x6<|ge x7<|some [ac y6 0,ac y6 1]else bif ab .eql x0 17 then gd x8<|gd x9<|gd x3<|gd x4<|gd (ap y7)<|gd (ab .eql (ae (ac y7 1)) (ae (ac y7 1)))<|gd (ab .eql (ae (ac y7 0)) (ae (ac y7 0)))<|gd x3<|gd x4<|ge pd0<|ge pd1<|ge pd2<|ge pd3<|ge x5<|ge pd5<|ge pd6<|ge x6<|ge x7<|some [ac y7 0,ac y7 1]else bif ab .eql x0 18 then gd x8<|gd x9<|gd x3<|gd x4<|gd (ap y8)<|gd (ab .eql (ae (ac y8 1)) (ae (ac y8 1)))<|gd (ab .eql (ae (ac y8 0)) (ae (ac y8 0)))<|gd x3<|gd x4<|ge pd0<|ge pd1<|ge pd2<|ge pd3<|ge x5<|ge pd5<|ge pd6<|ge x6<|ge x7<|some [ac y8 0,ac y8 1]else bif ab .eql x0 19 then gd x8<|gd x9<|gd x3<|gd x4<|gd (ap y10)<|gd (ab .eql (ae (ac y10 1)) (ae (ac y10 1)))<|gd (ab .eql (ae (ac y10 0)) (ae (ac y10 0)))<|gd x3<|gd x4<|ge pd0<|ge pd1<|ge pd2<|ge pd3<|ge x5<|ge pd5<|ge pd6<|ge x6<|ge x7<|some [ac y10 0,ac y10 1]else gd x8<|gd x9<|gd x3<|gd x4<|gd (ap y11)<|gd (aS (aa sd0 4) 1)<|gd (ab .eql x10 x10)<|gd (ab .eql x11 x11)<|gd x3<|gd x4<|gd y12<|gd (ab .eql (ae y13) (ae y13))<|gd (ab .eql (ae y14) (ae y14))<|gd x3<|gd x4<|gd (ap y15)<|gd (ap y16)<|bif aQ (ac y16 1)then gd x13<|gd x15<|gd x3<|gd x4<|gd (ap y17)<|gd (ab .eql (ae (ac y17 1)) (ae (ac y17 1)))<|gd (ab .eql (ae (ac y17 0)) (ae (ac y17 0)))<|gd x3<|gd x4<|ge pd0<|ge pd1<|ge pd2<|ge pd3<|ge x5<|ge pd5<|ge pd6<|ge x6<|ge x7<|some [ac y17 0,ac y17 1]else gd (ap y18)<|gd x13<|gd x15<|gd x3<|gd x4<|gd (ap y19)<|gd (ab .eql (ae (ac y19 1)) (ae (ac y19 1)))<|gd (ab .eql (ae (ac y19 0)) (ae (ac y19 0)))<|gd x3<|gd x4<|ge pd0<|ge pd1<|ge pd2<|ge pd3<|ge x5<|ge pd5<|ge pd6<|ge x6<|ge x7<|some [ac y19 0,ac y19 1]:=by kernel_rfl
def Fb42_eq:=by have h:= @Fb42_e;simp only[aF,gd,am,ak,ao,au,ar,aE,aj]at h;exact h
def F42:Nat->uAC:=levels Fb42
theorem F42_s (n:Nat):F42 (n+1)=Fb42 (F42 n):=rfl
def q42:uAC:=veil fun ds=>F42 (aY ds) ds
theorem XR:q42=fun ds=>F42 (aY ds) ds:=ai _
theorem sound42:aH env.P 42 S42 q42:=gM (fun q=>XP q) (fun q hq=>XQ q hq) XR
def tb42:Tb:=Tb.addF XO 42 S42 q42
theorem Ps:TbOk env tb42:=TbOk.addF Je (by kernel_rfl) sound42
def S49:FunS:=⟨[utP 0 0],[(.lst false 106),(.lst false 106),(.mp false 9 106),(.mp false 106 3),(.lst false 106),(.lst false 46),(.cells [ufO 1 46,ufO 2 106,ufS (.map 3),ufS (.map 4),utI,ufR 9,ufR 9,ufS (.int .u32),ufI,ufO 5 106,ufO 6 106])],[utI],[(.lst false 106),(.lst false 106),(.mp false 9 106),(.mp false 106 3),(.lst false 106),(.lst false 46),(.cells [utO 1 46,utO 2 106,utS (.map 3),utS (.map 4),utI,ufR 9,ufR 9,ufS (.int .u32),ufI,utO 5 106,utO 6 106])]⟩
def F49:uAC:=aO env tb42 60 12 49 S49
theorem F49_e (pd0:D) (pd1:D) (pd2:D) (pd3:D) (pd4:D) (pd5:D) (pd6:D) (pd7:D) (pn8:Int) (pn9:Int) (sn0:Int):F49 [pd0,pd1,pd2,pd3,pd4,pd5,pd6,pd7,(D.int pn8),(D.int pn9),(D.int sn0)] =
 let x0:=D.int (aM .add .i64 sn0 1)
 gd (ab .eql (ae pd5) (ae pd5))<|gd (ab .eql (ae pd4) (ae pd4))<|gd (ab .eql (ae pd1) (ae pd1))<|gd (ab .eql (ae pd0) (ae pd0))<|ge pd0<|ge pd1<|ge pd2<|ge pd3<|ge pd4<|ge pd5<|ge pd6<|ge pd7<|ge (.int pn8)<|ge (.int pn9)<|some [x0,x0]:=by kernel_rfl
def F49_eq:=by have h:= @F49_e;simp only[aF,gd,am,ak,ao,au,ar,aE,aj]at h;exact h
def q49:uAC:=veil (F49)
theorem MX:q49=F49:=ai _
def tb49:Tb:=Tb.addF tb42 49 S49 (q49)
theorem ok_tb49:TbOk env (tb49):=aJ Ps 49 (by kernel_rfl) _ (MX)
def S57:FunS:=⟨[utP 0 0,utI],[(.lst false 106),(.lst false 106),(.mp false 9 106),(.mp true 106 3),(.lst false 106),(.lst false 46),(.cells [ufO 1 46,ufO 2 106,ufS (.map 3),ufS (.map 4),ufI,ufR 9,ufR 9,ufS (.int .u32),ufI,ufO 5 106,ufO 6 106])],[utS (.tup [])],[(.lst false 106),(.lst false 106),(.mp false 9 106),(.mp true 106 3),(.lst false 106),(.lst false 46),(.cells [utO 1 46,utO 2 106,utS (.map 3),utS (.map 4),ufI,ufR 9,ufR 9,ufS (.int .u32),ufI,utO 5 106,utO 6 106])]⟩
def F57:uAC:=aO env tb49 60 12 57 S57
theorem F57_e (pd0:D) (pd1:D) (pd2:D) (pd3:D) (pd4:D) (pn5:Int) (pd6:D) (pd7:D) (pn8:Int) (pn9:Int) (sn0:Int) (sd1:D):F57 [pd0,pd1,pd2,pd3,pd4,(D.int pn5),pd6,pd7,(D.int pn8),(D.int pn9),(D.int sn0),sd1] =
 let y0:=ci (ab .eql (ae pd1) (ae pd1)) (ab .eql (ae pd0) (ae pd0))
 let y1:=ci (ab .eql pn8 pn8) (ci (ab .eql pn9 pn9) y0)
 let y2:=ci (ab .eql pn5 pn5) (ci (fV pd6 pd6) (ci (fV pd7 pd7) y1))
 let y3:=ci (ab .eql (ae pd4) (ae pd4)) (ci (ab .eql (ae pd3) (ae pd3)) y2)
 let x0:=ae pd4
 gd y3<|gd (ab .eql x0 x0)<|gd (ab .eql (ae pd3) (ae pd3))<|gd (ab .eql (ae pd1) (ae pd1))<|gd (ab .eql (ae pd0) (ae pd0))<|ge pd0<|ge pd1<|ge pd2<|ge pd3<|ge pd4<|ge (.int pn5)<|ge pd6<|ge pd7<|ge (.int pn8)<|ge (.int pn9)<|some [dN 106 sd1 (.int sn0) (.int x0)]:=by kernel_rfl
def F57_eq:=by have h:= @F57_e;simp only[aF,gd,am,ak,ao,au,ar,aE,aj]at h;exact h
def q57:uAC:=veil (F57)
theorem XS:q57=F57:=ai _
def tb57:Tb:=Tb.addF tb49 57 S57 (q57)
theorem ok_tb57:TbOk env (tb57):=aJ ok_tb49 57 (by kernel_rfl) _ (XS)
def S174:FunS:=⟨[utP 0 0,utI,utI],[(.lst false 106),(.lst false 106),(.mp false 9 106),(.mp false 106 3),(.lst true 106),(.lst true 46),(.cells [ufO 1 46,ufO 2 106,ufS (.map 3),ufS (.map 4),ufI,ufR 9,ufR 9,ufS (.int .u32),ufI,ufO 5 106,ufO 6 106])],[utS (.tup [])],[(.lst true 106),(.lst true 46),(.lst false 106),(.lst false 106),(.mp false 9 106),(.mp false 106 3), .skip, .skip,(.cells [utO 7 46,utO 8 106,utS (.map 3),utS (.map 4),ufI,ufR 9,ufR 9,ufS (.int .u32),ufI,utO 5 106,utO 6 106])]⟩
def F174:uAC:=aO env tb57 60 12 174 S174
theorem F174_e (pd0:D) (pd1:D) (pd2:D) (pd3:D) (pn4:Int) (pd5:D) (pd6:D) (pn7:Int) (pn8:Int) (sn0:Int) (sn1:Int) (sd2:D) (sd3:D):F174 [pd0,pd1,pd2,pd3,(D.int pn4),pd5,pd6,(D.int pn7),(D.int pn8),(D.int sn0),(D.int sn1),sd2,sd3] =
 let y0:=R8 [pd0,pd1,pd2,pd3,sd2,(.int pn4),pd5,pd6,(.int pn7),(.int pn8),(.list [(.agg [(.int 0),(.int 0),(.int 20),(.int 2),(.int 0),(.int sn0),(.int 0),(.int 0),(.int 0)])]),sd3]
 let y1:=Jc [pd0,pd1,pd2,pd3,(ac y0 0),(.int pn4),pd5,pd6,(.int pn7),(.int pn8),(.list [(.int sn1)]),sd2]
 let x0:=ab .eql (ae sd2) (ae sd2)
 let x1:=ab .eql (ae pd1) (ae pd1)
 let x2:=ab .eql (ae pd0) (ae pd0)
 let x3:=ab .eql (ae (ac y0 0)) (ae (ac y0 0))
 gd (ab .eql (ae sd3) (ae sd3))<|gd x0<|gd x1<|gd x2<|gd (ap y0)<|gd x3<|gd x0<|gd x1<|gd x2<|gd (ap y1)<|gd x3<|gd (ab .eql (ae (ac y1 0)) (ae (ac y1 0)))<|gd x1<|gd x2<|ge pd0<|ge pd1<|ge pd2<|ge pd3<|ge (.int pn4)<|ge pd5<|ge pd6<|ge (.int pn7)<|ge (.int pn8)<|some [ac y1 0,ac y0 0]:=by kernel_rfl
def F174_eq:=by have h:= @F174_e;simp only[aF,gd,am,ak,ao,au,ar,aE,aj]at h;exact h
def zM:uAC:=veil (F174)
theorem Pt:zM=F174:=ai _
def XT:Tb:=Tb.addF tb57 174 S174 (zM)
theorem XU:TbOk env (XT):=aJ ok_tb57 174 (by kernel_rfl) _ (Pt)
def S59:FunS:=⟨[utP 0 0,⟨true, .str⟩],[(.lst false 106),(.lst false 106),(.mp false 9 106),(.mp false 106 3),(.lst true 106),(.lst true 46),(.cells [ufO 1 46,ufO 2 106,ufS (.map 3),ufS (.map 4),ufI,ufR 9,ufR 9,ufS (.int .u32),ufI,ufO 5 106,ufO 6 106])],[utS (.tup [])],[(.lst true 106),(.lst true 46),(.lst false 106),(.lst false 106),(.mp false 9 106),(.mp false 106 3), .skip, .skip,(.cells [utO 7 46,utO 8 106,utS (.map 3),utS (.map 4),ufI,ufR 9,ufR 9,ufS (.int .u32),ufI,utO 5 106,utO 6 106])]⟩
def F59:uAC:=aO env XT 60 12 59 S59
theorem F59_e (pd0:D) (pd1:D) (pd2:D) (pd3:D) (pn4:Int) (pd5:D) (pd6:D) (pn7:Int) (pn8:Int) (ss0:ByteArray) (sd1:D) (sd2:D):F59 [pd0,pd1,pd2,pd3,(D.int pn4),pd5,pd6,(D.int pn7),(D.int pn8),(D.str ss0),sd1,sd2] =
 let y0:=q51 [pd0,pd1,pd2,pd3,sd1,sd2,(.int pn4),pd5,pd6,(.int pn7),(.int pn8),(.str ss0)]
 let y1:=q50 [pd0,pd1,pd2,pd3,(.int pn4),pd5,pd6,(.int pn7),(.int pn8),(.list [(.agg [(.int (ah (aa (ac y0 0) 0))),(.int (ah (aa (ac y0 0) 1))),(.int (ah (aa (ac y0 0) 2))),(.int (ah (aa (ac y0 0) 3))),(.int (ah (aa (ac y0 0) 4))),(.int (ah (aa (ac y0 0) 5))),(.int (ah (aa (ac y0 0) 6))),(.int (ah (aa (ac y0 0) 7))),(.int (ah (aa (ac y0 0) 8)))]),(.agg [(.int 0),(.int 0),(.int 18),(.int 0),(.int 4),(.int 0),(.int 0),(.int 2),(.int 0)])]),sd1,sd2]
 let x0:=ab .eql (ae sd2) (ae sd2)
 let x1:=ab .eql (ae sd1) (ae sd1)
 let x2:=ab .eql (ae pd1) (ae pd1)
 let x3:=ab .eql (ae pd0) (ae pd0)
 gd x0<|gd x1<|gd x2<|gd x3<|gd (ap y0)<|gd x0<|gd x1<|gd x2<|gd x3<|gd (ap y1)<|gd (ab .eql (ae (ac y1 1)) (ae (ac y1 1)))<|gd (ab .eql (ae (ac y1 0)) (ae (ac y1 0)))<|gd x2<|gd x3<|ge pd0<|ge pd1<|ge pd2<|ge pd3<|ge (.int pn4)<|ge pd5<|ge pd6<|ge (.int pn7)<|ge (.int pn8)<|some [ac y1 0,ac y1 1]:=by kernel_rfl
def F59_eq:=by have h:= @F59_e;simp only[aF,gd,am,ak,ao,au,ar,aE,aj]at h;exact h
def q59:uAC:=veil (F59)
theorem XV:q59=F59:=ai _
def tb59:Tb:=Tb.addF XT 59 S59 (q59)
theorem Pu:TbOk env (tb59):=aJ XU 59 (by kernel_rfl) _ (XV)
def S225:FunS:=⟨[utP 0 0,utD 25,utI],[(.lst false 106),(.lst false 106),(.mp false 9 106),(.mp false 106 3),(.lst true 106),(.lst true 46),(.cells [ufO 1 46,ufO 2 106,ufS (.map 3),ufS (.map 4),ufI,ufR 9,ufR 9,ufS (.int .u32),ufI,ufO 5 106,ufO 6 106])],[utS (.tup [])],[(.lst true 106),(.lst true 46),(.lst false 106),(.lst false 106),(.mp false 9 106),(.mp false 106 3), .skip, .skip,(.cells [utO 7 46,utO 8 106,utS (.map 3),utS (.map 4),ufI,ufR 9,ufR 9,ufS (.int .u32),ufI,utO 5 106,utO 6 106])]⟩
def F225:uAC:=aO env tb59 60 12 225 S225
theorem F225_e (pd0:D) (pd1:D) (pd2:D) (pd3:D) (pn4:Int) (pd5:D) (pd6:D) (pn7:Int) (pn8:Int) (sd0:D) (sn1:Int) (sd2:D) (sd3:D):F225 [pd0,pd1,pd2,pd3,(D.int pn4),pd5,pd6,(D.int pn7),(D.int pn8),sd0,(D.int sn1),sd2,sd3] =
 let y0:=q42 [pd0,pd1,pd2,pd3,(.int pn4),pd5,pd6,(.int pn7),(.int pn8),sd0,sd2,sd3]
 let y1:=q50 [pd0,pd1,pd2,pd3,(.int pn4),pd5,pd6,(.int pn7),(.int pn8),(.list [(.agg [(.int 0),(.int 0),(.int 15),(.int 1),(.int 0),(.int 0),(.int 0),(.int 0),(.int 0)])]),(ac y0 0),(ac y0 1)]
 let y2:=zM [pd0,pd1,pd2,pd3,(.int pn4),pd5,pd6,(.int pn7),(.int pn8),(.int 1),(.int sn1),(ac y1 0),(ac y1 1)]
 let x0:=ab .eql (ae pd1) (ae pd1)
 let x1:=ab .eql (ae pd0) (ae pd0)
 let x2:=ae (ac y0 1)
 let x3:=ae (ac y0 0)
 let x4:=ae (ac y1 1)
 let x5:=ae (ac y1 0)
 gd (ab .eql (ae sd3) (ae sd3))<|gd (ab .eql (ae sd2) (ae sd2))<|gd x0<|gd x1<|gd (ap y0)<|gd (ab .eql x2 x2)<|gd (ab .eql x3 x3)<|gd x0<|gd x1<|gd (ap y1)<|gd (ab .eql x4 x4)<|gd (ab .eql x5 x5)<|gd x0<|gd x1<|gd (ap y2)<|gd (ab .eql (ae (ac y2 1)) (ae (ac y2 1)))<|gd (ab .eql (ae (ac y2 0)) (ae (ac y2 0)))<|gd x0<|gd x1<|ge pd0<|ge pd1<|ge pd2<|ge pd3<|ge (.int pn4)<|ge pd5<|ge pd6<|ge (.int pn7)<|ge (.int pn8)<|some [ac y2 0,ac y2 1]:=by kernel_rfl
def F225_eq:=by have h:= @F225_e;simp only[aF,gd,am,ak,ao,au,ar,aE,aj]at h;exact h
def R9:uAC:=veil (F225)
theorem Fc:R9=F225:=ai _
def XW:Tb:=Tb.addF tb59 225 S225 (R9)
theorem XX:TbOk env (XW):=aJ Pu 225 (by kernel_rfl) _ (Fc)
def S176:FunS:=⟨[utP 0 0,⟨true, .str⟩],[(.lst false 106),(.lst false 106),(.mp true 9 106),(.mp false 106 3),(.lst false 106),(.lst false 46),(.cells [ufO 1 46,ufO 2 106,ufS (.map 3),ufS (.map 4),utI,ufR 9,ufR 9,ufS (.int .u32),ufI,ufO 5 106,ufO 6 106])],[utI],[(.lst false 106),(.lst false 106),(.mp true 9 106),(.mp false 106 3),(.lst false 106),(.lst false 46),(.cells [utO 1 46,utO 2 106,utS (.map 3),utS (.map 4),utI,ufR 9,ufR 9,ufS (.int .u32),ufI,utO 5 106,utO 6 106])]⟩
def F176:uAC:=aO env XW 60 12 176 S176
theorem F176_e (pd0:D) (pd1:D) (pd2:D) (pd3:D) (pd4:D) (pd5:D) (pd6:D) (pn7:Int) (pn8:Int) (ss0:ByteArray) (sd1:D) (sn2:Int):F176 [pd0,pd1,pd2,pd3,pd4,pd5,pd6,(D.int pn7),(D.int pn8),(D.str ss0),sd1,(D.int sn2)] =
 let y0:=q49 [pd0,pd1,sd1,pd2,pd3,pd4,pd5,pd6,(.int pn7),(.int pn8),(.int sn2)]
 let x0:=D.str ss0
 let x1:=ab .eql (ae pd4) (ae pd4)
 let x2:=ab .eql (ae pd3) (ae pd3)
 let x3:=ab .eql (ae pd1) (ae pd1)
 let x4:=ab .eql (ae pd0) (ae pd0)
 let x5:=D.int (ah (ac y0 0))
 bif bU (sw 9 sd1 x0)then gd x1<|gd x2<|gd x3<|gd x4<|gd (ap y0)<|gd x1<|gd x2<|gd x3<|gd x4<|ge pd0<|ge pd1<|ge pd2<|ge pd3<|ge pd4<|ge pd5<|ge pd6<|ge (.int pn7)<|ge (.int pn8)<|some [x5,dN 9 sd1 x0 x5,.int (ah (ac y0 1))]else gd x1<|gd x2<|gd x3<|gd x4<|ge pd0<|ge pd1<|ge pd2<|ge pd3<|ge pd4<|ge pd5<|ge pd6<|ge (.int pn7)<|ge (.int pn8)<|some [.int (ah (lr 9 (.int 0) sd1 x0)),sd1,.int sn2]:=by kernel_rfl
def Pv:=by have h:= @F176_e;simp only[aF,gd,am,ak,ao,au,ar,aE,aj]at h;exact h
def XY:uAC:=veil (F176)
theorem Fd:XY=F176:=ai _
def XZ:Tb:=Tb.addF XW 176 S176 (XY)
theorem Jf:TbOk env (XZ):=aJ XX 176 (by kernel_rfl) _ (Fd)
end
end Go.Proofs.YtiojjmlccehpoaaGreat
