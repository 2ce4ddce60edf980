/-
  Made by gen3.py: what functions of the seat compute, as partial functions on data, and that they do.
-/
import Derived.Test.YtfdedgmlafelaaaGreatDoorM1
import Derived.KernelRfl
set_option linter.defProp false
set_option linter.unusedSimpArgs false
set_option linter.unusedVariables false
set_option maxRecDepth 100000
open Go Go.AM
namespace Go.Proofs.YtfdedgmlafelaaaGreatDoor
noncomputable section
def S28_11:LoopS:=⟨0,uF::ufP 0 0::ufN::ufS (.lit (.bool false))::ufS (.oslc 1 3)::ufS (.oslc 2 4)::ufS (.oslc 3 3)::uF::ufI::uAA 48 (ufR 3::ufI::utI::uAA 33 []),[(.lst true 3),(.lst true 4),(.lst true 3),(.dat false 25)],[⟨0,2,uT::utP 0 0::utN::utS (.lit (.bool false))::utO 1 3::utO 2 4::utO 3 3::uT::ufI::uAB 48 (ufR 3::ufI::uAB 34 []),[(.lst true 3),(.lst true 4),(.lst true 3),(.dat false 25)]⟩,⟨1,0,uT::uT::utN::utS (.lit (.bool false))::uT::uT::uT::uT::ufI::uAB 48 (ufR 3::ufI::uAB 34 []),[.skip, .skip, .skip,(.dat false 25)]⟩]⟩
def nU (p s:List D):Option (Sum (List D) (List D)):=aR env tb48 60 12 28 (aW 28 11) S28_11 p s
theorem Oo (pn0:Int) (pd1:D) (pn2:Int) (pd3:D) (sn0:Int) (sd1:D) (sd2:D) (sd3:D):nU [(D.int pn0),pd1,(D.int pn2),pd3] [(D.int sn0),sd1,sd2,sd3] =
 let x0:=ah (ay pd1 sn0)
 let x1:=ae .leq 0 x0
 let x2:=ai sd2
 let x3:=ae .lss x0 x2
 let x4:=aI sd2 x0
 let x5:=aJ (ay sd2 x0)
 let x6:=ai sd3
 let x7:=ae .lss x0 x6
 let x8:=aI sd3 x0
 let x9:=D.int pn0
 let x10:=D.int pn2
 let x11:=ai sd1
 let x12:=ae .eql x11 x11
 let x13:=bN sd1 (.list [.int x0])
 let x14:=ai x13
 let x15:=cj (cz sd3 x0 x9) 0 x6
 let x16:=cj (cz sd2 x0 (.bool true)) 0 x2
 let x17:=cj x13 0 x14
 let x18:=D.int (aQ .add .i64 sn0 1)
 let x19:=cj sd3 0 x6
 let x20:=cj sd2 0 x2
 let x21:=cj sd1 0 x11
 bif ae .lss sn0 pn2 then gd (aI pd1 sn0)<|gd x1<|gd x3<|gd x4<|gd (aA x5 (bL x1 (bL x7 x8)) true)<|bif aA x5 (ae .neq (ah (ay sd3 x0)) pn0) false then ge x9<|ge pd1<|ge x10<|ge pd3<|some (Sum.inr [.int 1])else gd x1<|gd x3<|gd x4<|bif ca x5 then gd x1<|gd x3<|gd x4<|gd x1<|gd x7<|gd x8<|gd x12<|gd (bF x14 8)<|gd (ae .eql x6 (ai x15))<|gd (ae .eql x2 (ai x16))<|gd (ae .eql x14 (ai x17))<|ge x9<|ge pd1<|ge x10<|ge pd3<|some (Sum.inl [x18,x17,x16,x15])else gd (ae .eql x6 (ai x19))<|gd (ae .eql x2 (ai x20))<|gd (ae .eql x11 (ai x21))<|ge x9<|ge pd1<|ge x10<|ge pd3<|some (Sum.inl [x18,x21,x20,x19])else gd (ae .eql x6 x6)<|gd (ae .eql x2 x2)<|gd x12<|ge x9<|ge pd1<|ge x10<|ge pd3<|some (Sum.inr [.int 0,sd1,sd2,sd3]):=by kernel_rfl
def vx:=by have h:= @Oo;simp only[aN,gd,aq,aj,az,aM,cond_true]at h;exact h
def BI:List D->uAC:=veil fun p s=>loW (nU p) s
theorem za:BI=fun p s=>loW (nU p) s:=ak _
def vy:Tb:=Tb.addL tb48 28 11 S28_11.n0 (bu S28_11 (BI))
theorem FK:TbOk env (vy):=aF ok_tb48 28 11 (by kernel_rfl) _ (za)
def S28_4:LoopS:=⟨0,uF::ufP 0 0::ufN::ufS (.lit (.bool false))::ufS (.oslc 1 3)::ufS (.oslc 2 4)::ufS (.oslc 3 3)::uAA 86 [],[(.lst true 3),(.lst true 4),(.lst true 3),(.dat false 25)],[⟨0,0,uT::uT::utN::utS (.lit (.bool false))::utO 1 3::uAB 88 [],[.skip, .skip,(.lst true 3),(.dat false 25)]⟩,⟨1,0,uT::uT::utN::utS (.lit (.bool false))::uAB 89 [],[.skip, .skip, .skip,(.dat false 25)]⟩]⟩
def vz (p s:List D):Option (Sum (List D) (List D)):=aR env vy 60 12 28 (aW 28 4) S28_4 p s
theorem SS (pd0:D) (sd0:D) (sd1:D) (sd2:D):vz [pd0] [sd0,sd1,sd2] =
 let x0:=ai sd0
 let x1:=aQ .sub .i64 x0 1
 let x2:=ae .leq 0 x1
 let x3:=ah (ay sd0 x1)
 let x4:=aI (aa pd0 1) x3
 let x5:=ai sd2
 let x6:=ay (aa pd0 1) x3
 let x7:=q61 [x6,.int (ah (ay sd2 x3))]
 let x8:Option (List D ⊕ List D):=ge pd0<|some (Sum.inr [.int 1])
 let x9:=q22 [x6]
 let x10:=cj sd2 0 x5
 let x11:=cj sd1 0 (ai sd1)
 let x12:=cj sd0 0 x1
 let x13:=BI [.int (ah (ar x7 0)),ar x9 0,.int (ai (ar x9 0)),pd0] [.int 0,x12,x11,x10]
 let x14:=cj (ar x13 3) 0 (ai (ar x13 3))
 let x15:=cj (ar x13 2) 0 (ai (ar x13 2))
 let x16:=cj (ar x13 1) 0 (ai (ar x13 1))
 bif ae .gtr x0 0 then gd x2<|gd (ae .lss x1 x0)<|gd (aI sd0 x1)<|gd x2<|gd (ae .leq x1 x0)<|gd x4<|gd (ae .leq 0 x3)<|gd (ae .lss x3 x5)<|gd (aI sd2 x3)<|gd (uZZ x7)<|bif ca (aJ (ar x7 1))then x8 else gd x4<|gd (uZZ x9)<|gd (ae .eql x5 (ai x10))<|gd (ae .eql (ai sd1) (ai x11))<|gd (ae .eql x1 (ai x12))<|gd (uZZ x13)<|bif ae .eql (ah (ar x13 0)) 0 then gd (ae .eql (ai (ar x13 3)) (ai x14))<|gd (ae .eql (ai (ar x13 2)) (ai x15))<|gd (ae .eql (ai (ar x13 1)) (ai x16))<|ge pd0<|some (Sum.inl [x16,x15,x14])else x8 else gd (ae .eql x5 x5)<|ge pd0<|some (Sum.inr [.int 0,sd2]):=by kernel_rfl
def pk:=by have h:= @SS;simp only[aN,gd,aq,aj,az,aM,cond_true]at h;exact h
def LQ:List D->uAC:=veil fun p s=>loW (vz p) s
theorem FL:LQ=fun p s=>loW (vz p) s:=ak _
def BJ:Tb:=Tb.addL vy 28 4 S28_4.n0 (bu S28_4 (LQ))
theorem Jv:TbOk env (BJ):=aF FK 28 4 (by kernel_rfl) _ (FL)
def S28:FunS:=⟨[utD 25],[],[utS (.tup [(.rows 3), .bool])],[]⟩
def F28:uAC:=aS env BJ 60 12 28 S28
theorem F28_e (sd0:D):F28 [sd0] =
 let x0:=ai (aa sd0 1)
 let x1:=ae .leq 0 x0
 let x2:=ae .leq x0 x0
 let x3:=D.bool false
 let x4:=ot x0 x3
 let x5:=cj (ot x0 (.int 0)) 0 x0
 let x6:=D.bool true
 let x7:=cj (cz x4 0 x6) 0 x0
 let x8:=D.list [.int 0]
 let x9:=LQ [sd0] [x8,x7,x5]
 gd x1<|gd x2<|gd (bF x0 8)<|gd x1<|gd x2<|gd (bF x0 1)<|gd (ae .leq 0 0)<|gd (ae .lss 0 x0)<|gd (aI x4 0)<|gd (ae .eql x0 (ai x5))<|gd (ae .eql x0 (ai x7))<|gd (ae .eql 1 (ai x8))<|gd (uZZ x9)<|bif ae .eql (ah (ar x9 0)) 0 then gd (ae .eql (ai (ar x9 1)) (ai (ar x9 1)))<|some [ar x9 1,x6]else some [.list [],x3]:=by kernel_rfl
def F28_eq:=by have h:= @F28_e;simp only[aN,gd,aq,aj,az,aM,cond_true]at h;exact h
def q28:uAC:=veil (F28)
theorem ST:q28=F28:=ak _
def tb28:Tb:=Tb.addF BJ 28 S28 (q28)
theorem ok_tb28:TbOk env (tb28):=aG Jv 28 (by kernel_rfl) _ (ST)
def S17:FunS:=⟨[utD 25],[],[utS (.tup [(.rows 3), .bool])],[]⟩
def F17:uAC:=aS env tb28 60 12 17 S17
def q17:uAC:=veil (F17)
theorem q17_eq:q17=F17:=ak _
def SU:Tb:=Tb.addF tb28 17 S17 (q17)
theorem LR:TbOk env (SU):=aG ok_tb28 17 (by kernel_rfl) _ (q17_eq)
def S18_13:LoopS:=⟨0,uF::ufP 0 0::ufN::ufS (.lit (.bool false))::ufO 1 4::ufO 2 3::ufO 3 3::ufI::ufI::utI::utI::uAA 119 [],[(.lst false 3),(.lst false 3),(.lst false 4),(.dat false 25)],[⟨0,2,uT::utP 0 0::utN::utS (.lit (.bool false))::utO 1 4::utO 2 3::utO 3 3::ufI::ufI::utI::uAB 120 [],[(.lst false 3),(.lst false 3),(.lst false 4),(.dat false 25)]⟩,⟨1,0,uT::uT::utN::utS (.lit (.bool false))::uT::uT::uT::ufI::ufI::uAB 121 [],[(.lst false 3),(.lst false 3),(.lst false 4),(.dat false 25)]⟩]⟩
def rG (p s:List D):Option (Sum (List D) (List D)):=aR env SU 60 12 18 (aW 18 13) S18_13 p s
theorem Oq (pn0:Int) (pn1:Int) (pd2:D) (pd3:D) (pd4:D) (pd5:D) (sn0:Int) (sn1:Int):rG [(D.int pn0),(D.int pn1),pd2,pd3,pd4,pd5] [(D.int sn0),(D.int sn1)] =
 let x0:=aI (aa pd5 1) pn1
 let x1:=aa (ay (aa pd5 1) pn1) 1
 let x2:=q38 [ay x1 sn1,.int sn0]
 let x3:=D.int pn0
 let x4:=D.int pn1
 let x5:=ae .eql (ai pd4) (ai pd4)
 let x6:=ae .eql (ai pd3) (ai pd3)
 let x7:=ae .eql (ai pd2) (ai pd2)
 gd x0<|bif ae .lss sn1 (ai x1)then gd x0<|gd (aI x1 sn1)<|gd (uZZ x2)<|bif ca (aJ (ar x2 1))then ge x3<|ge x4<|ge pd2<|ge pd3<|ge pd4<|ge pd5<|some (Sum.inr [.int 1])else gd x5<|gd x6<|gd x7<|ge x3<|ge x4<|ge pd2<|ge pd3<|ge pd4<|ge pd5<|some (Sum.inl [.int (ah (ar x2 0)),.int (aQ .add .i64 sn1 1)])else gd x5<|gd x6<|gd x7<|ge x3<|ge x4<|ge pd2<|ge pd3<|ge pd4<|ge pd5<|some (Sum.inr [.int 0,.int sn0]):=by kernel_rfl
def vC:=by have h:= @Oq;simp only[aN,gd,aq,aj,az,aM,cond_true]at h;exact h
def vD:List D->uAC:=veil fun p s=>loW (rG p) s
theorem zb:vD=fun p s=>loW (rG p) s:=ak _
def vE:Tb:=Tb.addL SU 18 13 S18_13.n0 (bu S18_13 (vD))
theorem FM:TbOk env (vE):=aF LR 18 13 (by kernel_rfl) _ (zb)
def S18_21:LoopS:=⟨0,uF::ufP 0 0::ufN::ufS (.lit (.bool false))::ufO 1 4::ufO 2 3::ufO 3 3::ufI::uF::ufI::uF::uF::uF::ufR 3::utI::uAA 115 [],[(.lst true 3),(.lst true 3),(.lst true 4),(.dat false 25)],[⟨0,4,uT::utP 0 0::utN::utS (.lit (.bool false))::utO 1 4::utO 2 3::utO 3 3::ufI::uT::ufI::uT::uT::uT::ufR 3::uAB 116 [],[(.lst true 3),(.lst true 3),(.lst true 4),(.dat false 25)]⟩,⟨1,0,uT::uT::utN::utS (.lit (.bool false))::uT::uT::uT::ufI::uT::ufI::uT::uT::uT::ufR 3::uAB 116 [],[.skip, .skip, .skip,(.dat false 25)]⟩]⟩
def nV (p s:List D):Option (Sum (List D) (List D)):=aR env vE 60 12 18 (aW 18 21) S18_21 p s
theorem Ou (pn0:Int) (pn1:Int) (pd2:D) (pd3:D) (sn0:Int) (sd1:D) (sd2:D) (sd3:D):nV [(D.int pn0),(D.int pn1),pd2,pd3] [(D.int sn0),sd1,sd2,sd3] =
 let x0:=aI pd2 sn0
 let x1:=ah (ay pd2 sn0)
 let x2:=ae .leq 0 x1
 let x3:=ai sd3
 let x4:=ae .lss x1 x3
 let x5:=aI sd3 x1
 let x6:=aJ (ay sd3 x1)
 let x7:=ai sd2
 let x8:=ae .lss x1 x7
 let x9:=aI sd2 x1
 let x10:=D.int pn0
 let x11:=D.int pn1
 let x12:=ae .eql (ai sd1) (ai sd1)
 let x13:=bN sd1 (.list [.int x1])
 let x14:=ai x13
 let x15:=cz sd3 x1 (.bool true)
 let x16:=cz sd2 x1 x11
 let x17:=D.int (aQ .add .i64 sn0 1)
 let x18:=ae .eql x3 x3
 let x19:=ae .eql x7 x7
 bif ae .lss sn0 (ai pd2)then gd x0<|gd x2<|gd x4<|gd x5<|gd (aA x6 (bL x0 (bL x2 (bL x8 x9))) true)<|bif aA x6 (ae .neq (ah (ay sd2 x1)) pn1) false then ge x10<|ge x11<|ge pd2<|ge pd3<|some (Sum.inr [.int 1])else gd x0<|gd x2<|gd x4<|gd x5<|bif ca x6 then gd x0<|gd x2<|gd x4<|gd x5<|gd x0<|gd x2<|gd x8<|gd x9<|gd x0<|gd x12<|gd (bF x14 8)<|gd (ae .eql x3 (ai x15))<|gd (ae .eql x7 (ai x16))<|gd (ae .eql x14 x14)<|ge x10<|ge x11<|ge pd2<|ge pd3<|some (Sum.inl [x17,x13,x16,x15])else gd x18<|gd x19<|gd x12<|ge x10<|ge x11<|ge pd2<|ge pd3<|some (Sum.inl [x17,sd1,sd2,sd3])else gd x18<|gd x19<|gd x12<|ge x10<|ge x11<|ge pd2<|ge pd3<|some (Sum.inr [.int 0,sd1,sd2,sd3]):=by kernel_rfl
def vF:=by have h:= @Ou;simp only[aN,gd,aq,aj,az,aM,cond_true]at h;exact h
def BK:List D->uAC:=veil fun p s=>loW (nV p) s
theorem zc:BK=fun p s=>loW (nV p) s:=ak _
def vG:Tb:=Tb.addL vE 18 21 S18_21.n0 (bu S18_21 (BK))
theorem FN:TbOk env (vG):=aF FM 18 21 (by kernel_rfl) _ (zc)
def S18_8:LoopS:=⟨0,uF::ufP 0 0::ufN::ufS (.lit (.bool false))::ufO 1 4::ufO 2 3::ufO 3 3::utI::uAA 122 [],[(.lst true 3),(.lst true 3),(.lst true 4),(.dat false 25)],[⟨0,0,uT::uT::utN::utS (.lit (.bool false))::uT::utO 2 3::uAB 124 [],[.skip,(.lst true 3), .skip,(.dat false 25)]⟩,⟨1,0,uT::uT::utN::utS (.lit (.bool false))::uAB 126 [],[.skip, .skip, .skip,(.dat false 25)]⟩]⟩
def pn (p s:List D):Option (Sum (List D) (List D)):=aR env vG 60 12 18 (aW 18 8) S18_8 p s
theorem SV (pd0:D) (sn0:Int) (sd1:D) (sd2:D) (sd3:D):pn [pd0] [(D.int sn0),sd1,sd2,sd3] =
 let x0:=ai sd1
 let x1:=ae .lss sn0 x0
 let x2:=ah (ay sd1 sn0)
 let x3:=ai sd2
 let x4:=ae .eql (ai sd3) (ai sd3)
 let x5:=ae .eql x3 x3
 let x6:=ae .eql x0 x0
 let x7:=D.int 0
 let x8:=vD [.int sn0,.int x2,sd1,sd2,sd3,pd0] [.int (ah (ay sd2 x2)),x7]
 let x9:=q48 [ay (aa pd0 1) x2]
 let x10:=BK [.int sn0,.int (ah (ar x8 1)),ar x9 0,pd0] [x7,sd1,sd2,sd3]
 let x11:Option (List D ⊕ List D):=ge pd0<|some (Sum.inr [.int 1])
 bif x1 then gd (ae .leq 0 sn0)<|gd x1<|gd (aI sd1 sn0)<|gd (ae .leq 0 x2)<|gd (ae .lss x2 x3)<|gd (aI sd2 x2)<|gd x4<|gd x5<|gd x6<|gd (uZZ x8)<|bif ae .eql (ah (ar x8 0)) 0 then gd (aI (aa pd0 1) x2)<|gd (uZZ x9)<|gd x4<|gd x5<|gd x6<|gd (uZZ x10)<|bif ae .eql (ah (ar x10 0)) 0 then gd (ae .eql (ai (ar x10 3)) (ai (ar x10 3)))<|gd (ae .eql (ai (ar x10 2)) (ai (ar x10 2)))<|gd (ae .eql (ai (ar x10 1)) (ai (ar x10 1)))<|ge pd0<|some (Sum.inl [.int (aQ .add .i64 sn0 1),ar x10 1,ar x10 2,ar x10 3])else x11 else x11 else gd x5<|ge pd0<|some (Sum.inr [x7,sd2]):=by kernel_rfl
def ze:=by have h:= @SV;simp only[aN,gd,aq,aj,az,aM,cond_true]at h;exact h
def LS:List D->uAC:=veil fun p s=>loW (pn p) s
theorem FO:LS=fun p s=>loW (pn p) s:=ak _
def LT:Tb:=Tb.addL vG 18 8 S18_8.n0 (bu S18_8 (LS))
theorem Jw:TbOk env (LT):=aF FN 18 8 (by kernel_rfl) _ (FO)
def S18:FunS:=⟨[utD 25],[],[utS (.tup [(.rows 3), .bool])],[]⟩
def F18:uAC:=aS env LT 60 12 18 S18
theorem F18_e (sd0:D):F18 [sd0] =
 let x0:=q35 [sd0]
 let x1:=D.bool false
 let x2:Option (List D):=some [.list [],x1]
 let x3:=ai (aa sd0 1)
 let x4:=ae .leq 0 x3
 let x5:=ae .leq x3 x3
 let x6:=ot x3 x1
 let x7:=D.bool true
 let x8:=cz x6 0 x7
 let x9:=D.int 0
 let x10:=ot x3 x9
 let x11:=D.list [x9]
 let x12:=LS [sd0] [x9,x11,x10,x8]
 gd (uZZ x0)<|bif ae .neq (ah (ar x0 0)) 0 then x2 else gd x4<|gd x5<|gd (bF x3 1)<|gd x4<|gd x5<|gd (bF x3 8)<|gd (ae .leq 0 0)<|gd (ae .lss 0 x3)<|gd (aI x6 0)<|gd (ae .eql x3 (ai x8))<|gd (ae .eql x3 (ai x10))<|gd (ae .eql 1 (ai x11))<|gd (uZZ x12)<|bif ae .eql (ah (ar x12 0)) 0 then gd (ae .eql (ai (ar x12 1)) (ai (ar x12 1)))<|some [ar x12 1,x7]else x2:=by kernel_rfl
def F18_eq:=by have h:= @F18_e;simp only[aN,gd,aq,aj,az,aM,cond_true]at h;exact h
def q18:uAC:=veil (F18)
theorem SW:q18=F18:=ak _
end
end Go.Proofs.YtfdedgmlafelaaaGreatDoor
open Go Go.AM
namespace Go.Proofs.YtfdedgmlafelaaaGreatDoor
end Go.Proofs.YtfdedgmlafelaaaGreatDoor
open Go Go.AM
namespace Go.Proofs.YtfdedgmlafelaaaGreatDoor
noncomputable section
def FP:FunS:=⟨[utI,utS (.edat 25)],[],[utB],[]⟩
def vH:uAC:=aS env SU 60 12 148 FP
theorem FQ (sn0:Int) (sd1:D):vH [(D.int sn0),sd1] =
 some [(D.bool (aA (ae BinOp.lss sn0 0) Bool.true (ae BinOp.geq sn0 (ai (aa sd1 1)))))]:=by kernel_rfl
def kH:uAC:=veil (vH)
theorem qw:kH=vH:=ak _
def po:Tb:=Tb.addF SU 148 FP (kH)
theorem BL:TbOk env (po):=aG LR 148 (by kernel_rfl) _ (qw)
def S122_148_2:LoopS:=⟨0,ufR 3::ufS (.func 148 [] [(.edat 25)])::uF::uF::ufZ::uF::uF::ufI::utI::uAA 10 [],[],[⟨0,0,ufR 3::ufS (.func 148 [] [(.edat 25)])::uT::uT::utZ::uT::uT::ufI::uAB 11 [],[]⟩,⟨1,0,ufR 3::ufS (.func 148 [] [(.edat 25)])::uT::uT::utI::uT::uT::ufI::uAB 11 [],[]⟩]⟩
def gZ (p s:List D):Option (Sum (List D) (List D)):=aR env po 60 12 122 (aW 122 2) S122_148_2 p s
theorem xO (pd0:D) (pd1:D) (pn2:Int) (sn0:Int):gZ [pd0,pd1,(D.int pn2)] [(D.int sn0)] =
 let x0:=kH [.int (ah (ay pd0 sn0)),pd1]
 let x1:=D.int pn2
 bif ae .lss sn0 pn2 then gd (aI pd0 sn0)<|gd (uZZ x0)<|bif aJ (ar x0 0)then ge pd0<|ge pd1<|ge x1<|some (Sum.inr [.int 1,.int sn0])else ge pd0<|ge pd1<|ge x1<|some (Sum.inl [.int (aQ .add .i64 sn0 1)])else ge pd0<|ge pd1<|ge x1<|some (Sum.inr [.int 0]):=by kernel_rfl
def vJ:=by have h:= @xO;simp only[aN,gd,aq,aj,az,aM,cond_true]at h;exact h
def eS:List D->uAC:=veil fun p s=>loW (gZ p) s
theorem lU:eS=fun p s=>loW (gZ p) s:=ak _
def jC:Tb:=Tb.addL po 122 2 S122_148_2.n0 (bu S122_148_2 (eS))
theorem qQ:TbOk env (jC):=aF BL 122 2 (by kernel_rfl) _ (lU)
def FR:FunS:=⟨[utR 3,utS (.func 148 [] [(.edat 25)])],[],[utI],[]⟩
def vK:uAC:=aS env jC 60 12 122 FR
theorem FS (sd0:D) (sd1:D):vK [sd0,sd1] =
 bif (uZZ (eS [sd0,sd1,(D.int (ai sd0))] [(D.int 0)]))then
 bif (ae BinOp.eql (ah (ar (eS [sd0,sd1,(D.int (ai sd0))] [(D.int 0)]) 0)) 0)then
 some [(D.int (-1))]
 else
 some [(D.int (ah (ar (eS [sd0,sd1,(D.int (ai sd0))] [(D.int 0)]) 1)))]
 else
 none:=by kernel_rfl
def vL:uAC:=veil (vK)
theorem qx:vL=vK:=ak _
def pp:Tb:=Tb.addF jC 122 FR (vL)
theorem BM:TbOk env (pp):=aG qQ 122 (by kernel_rfl) _ (qx)
def S147_148_5:LoopS:=⟨0,ufR 3::ufS (.func 148 [] [(.edat 25)])::uF::uF::ufN::ufI::utI::uAA 35 [],[],[⟨0,0,ufR 3::ufS (.func 148 [] [(.edat 25)])::uT::uT::utN::ufI::uAB 36 [],[]⟩]⟩
def qy (p s:List D):Option (Sum (List D) (List D)):=aR env pp 60 12 147 (aW 147 5) S147_148_5 p s
def mz:List D->uAC:=veil fun p s=>loW (qy p) s
theorem xP:mz=fun p s=>loW (qy p) s:=ak _
def jD:Tb:=Tb.addL pp 147 5 S147_148_5.n0 (bu S147_148_5 (mz))
theorem qR:TbOk env (jD):=aF BM 147 5 (by kernel_rfl) _ (xP)
def FT:FunS:=⟨[utR 3,utS (.func 148 [] [(.edat 25)])],[],[utR 3],[]⟩
def vM:uAC:=aS env jD 1 12 147 FT
theorem Jx (sd0:D) (sd1:D):vM [sd0,sd1] =
 let x0:=vL [sd0,sd1]
 let x1:=ah (ar x0 0)
 let x2:=ai sd0
 gd (uZZ x0)<|bif ae .eql x1 (-1)then some [sd0]else gd (uZZ (mz [sd0,sd1,.int x1] [.int (aQ .add .i64 x1 1)]))<|gd (ae .leq 0 x1)<|gd (ae .leq x1 x2)<|gd (ae .leq x2 x2) none:=by kernel_rfl
def FU:=by have h:= @Jx;simp only[aN,gd,aq,aj,az,aM,cond_true]at h;exact h
def fy:uAC:=veil (vM)
theorem qz:fy=vM:=ak _
def pq:Tb:=Tb.addF jD 147 FT (fy)
theorem BN:TbOk env (pq):=addFunK 1 qR 147 (by kernel_rfl) _ (qz)
def S127:FunS:=⟨[utD 25,utI],[],[utR 3],[]⟩
def F127:uAC:=aS env pq 60 12 127 S127
theorem F127_e (sd0:D) (sn1:Int):F127 [sd0,(D.int sn1)] =
 let x0:=aa (ay (aa sd0 1) sn1) 1
 let x1:=aQ .sub .i64 (ai x0) 1
 let x2:=ay x0 x1
 let x3:=ah (aa x2 0)
 let x4:=D.int (ah (aa x2 3))
 let x5:=fy [.list [x4],sd0]
 let x6:=fy [.list [x4,.int (ah (aa x2 4))],sd0]
 let x7:=q53 [aa x2 7]
 let x8:=fy [ar x7 0,sd0]
 let x9:=fy [.list [],sd0]
 gd (aI (aa sd0 1) sn1)<|bif ae .eql (ai x0) 0 then some [.list []]else gd (aI x0 x1)<|bif ae .eql x3 6 then gd (uZZ x5)<|some [ar x5 0]else bif ae .eql x3 7 then gd (uZZ x6)<|some [ar x6 0]else bif ae .eql x3 8 then gd (uZZ x7)<|gd (uZZ x8)<|some [ar x8 0]else gd (uZZ x9)<|some [ar x9 0]:=by kernel_rfl
def F127_eq:=by have h:= @F127_e;simp only[aN,gd,aq,aj,az,aM,cond_true]at h;exact h
def Ov:uAC:=veil (F127)
theorem LU:Ov=F127:=ak _
def SX:Tb:=Tb.addF pq 127 S127 (Ov)
theorem SY:TbOk env (SX):=aG BN 127 (by kernel_rfl) _ (LU)
def S96_3:LoopS:=⟨0,uF::ufP 0 0::ufN::ufO 1 46::uAA 7 (ufI::utI::uAA 10 []),[(.lst true 46),(.dat false 25)],[⟨0,0,uT::uT::utN::utO 1 46::uAB 7 (ufI::uAB 11 []),[(.lst true 46),(.dat false 25)]⟩]⟩
def BO (p s:List D):Option (Sum (List D) (List D)):=aR env SX 60 12 96 (aW 96 3) S96_3 p s
theorem SZ (pn0:Int) (pd1:D) (sn0:Int) (sd1:D):BO [(D.int pn0),pd1] [(D.int sn0),sd1] =
 let x0:=Ov [pd1,.int sn0]
 let x1:=ai sd1
 let x2:=cz sd1 sn0 (ar x0 0)
 bif ae .lss sn0 pn0 then gd (uZZ x0)<|gd (ae .leq 0 sn0)<|gd (ae .lss sn0 x1)<|gd (aI sd1 sn0)<|gd (ae .eql x1 (ai x2))<|ge (.int pn0)<|ge pd1<|some (Sum.inl [.int (aQ .add .i64 sn0 1),x2])else gd (ae .eql x1 x1)<|ge (.int pn0)<|ge pd1<|some (Sum.inr [.int 0,sd1]):=by kernel_rfl
def zf:=by have h:= @SZ;simp only[aN,gd,aq,aj,az,aM,cond_true]at h;exact h
def LV:List D->uAC:=veil fun p s=>loW (BO p) s
theorem FV:LV=fun p s=>loW (BO p) s:=ak _
def BP:Tb:=Tb.addL SX 96 3 S96_3.n0 (bu S96_3 (LV))
theorem Jy:TbOk env (BP):=aF SY 96 3 (by kernel_rfl) _ (FV)
def S96:FunS:=⟨[utD 25],[],[utR 46],[]⟩
def F96:uAC:=aS env BP 60 12 96 S96
theorem F96_e (sd0:D):F96 [sd0] =
 let x0:=ai (aa sd0 1)
 let x1:=ot x0 (.list [])
 let x2:=LV [.int x0,sd0] [.int 0,x1]
 gd (ae .leq 0 x0)<|gd (ae .leq x0 x0)<|gd (bF x0 24)<|gd (ae .eql x0 (ai x1))<|gd (uZZ x2)<|gd (ae .eql (ai (ar x2 1)) (ai (ar x2 1)))<|some [ar x2 1]:=by kernel_rfl
def F96_eq:=by have h:= @F96_e;simp only[aN,gd,aq,aj,az,aM,cond_true]at h;exact h
def q96:uAC:=veil (F96)
theorem S0:q96=F96:=ak _
def tb96:Tb:=Tb.addF BP 96 S96 (q96)
theorem LW:TbOk env (tb96):=aG Jy 96 (by kernel_rfl) _ (S0)
def Ow:FunS:=⟨[utI,utP 1 0,utP 0 0,utP 3 0,utP 2 0],[(.lst true 3),(.lst true 4),(.cells [ufS (.func 125 [] [(.ptr 1 0),(.ptr 0 0),(.ptr 3 0),(.ptr 2 0)])]),(.cells [ufO 5 3]),(.cells [ufO 4 4]),(.cells [ufR 46])],[utS (.tup [])],[(.lst true 3),(.lst true 4), .skip, .skip,(.cells [ufS (.func 125 [] [(.ptr 1 0),(.ptr 0 0),(.ptr 3 0),(.ptr 2 0)])]),(.cells [utO 7 3]),(.cells [utO 6 4]),(.cells [ufR 46])]⟩
def Jz (Q:uAC):Tb:=Tb.addF tb96 125 Ow Q
theorem Ox (Q:uAC) (hQ:aY env.P 125 Ow Q):TbOk env (Jz Q):=TbOk.addF LW (by kernel_rfl) hQ
def S125_2:LoopS:=⟨6,ufI::ufP 1 0::uF::ufP 3 0::ufP 2 0::uAA 9 (ufR 3::ufI::utI::uAA 16 []),[(.lst true 3),(.lst true 4), .skip, .skip,(.cells [ufS (.func 125 [] [(.ptr 1 0),(.ptr 0 0),(.ptr 3 0),(.ptr 2 0)])]),(.cells [ufO 7 3]),(.cells [ufO 6 4]),(.cells [ufR 46])],[⟨0,0,ufI::uT::uT::uT::utP 2 0::uAB 9 (ufR 3::ufI::uAB 17 []),[(.lst true 3),(.lst true 4), .skip, .skip,(.cells [utS (.func 125 [] [(.ptr 1 0),(.ptr 0 0),(.ptr 3 0),(.ptr 2 0)])]),(.cells [utO 7 3]),(.cells [utO 6 4]),(.cells [ufR 46])]⟩]⟩
def rH (Q:uAC) (p s:List D):Option (Sum (List D) (List D)):=aR env (Jz Q) 60 12 125 (aW 125 2) S125_2 p s
theorem Oy (Q:uAC) (pn0:Int) (pd1:D) (pn2:Int) (pd3:D) (sn0:Int) (sd1:D) (sd2:D):rH Q [(D.int pn0),pd1,(D.int pn2),pd3] [(D.int sn0),sd1,sd2] =
 let x0:=ah (ay pd1 sn0)
 let x1:=ai sd2
 let x2:=ae .eql (ai sd1) (ai sd1)
 let x3:=ae .eql x1 x1
 let x4:=Q [pd3,.int x0,sd1,sd2]
 let x5:=D.int pn0
 let x6:=D.int pn2
 let x7:=D.int (aQ .add .i64 sn0 1)
 bif ae .lss sn0 pn2 then gd (aI pd1 sn0)<|gd (ae .leq 0 x0)<|gd (ae .lss x0 x1)<|gd (aI sd2 x0)<|bif ca (aJ (ay sd2 x0))then gd x2<|gd x3<|gd (uZZ x4)<|gd (ae .eql (ai (ar x4 0)) (ai (ar x4 0)))<|gd (ae .eql (ai (ar x4 1)) (ai (ar x4 1)))<|ge x5<|ge pd1<|ge x6<|ge pd3<|some (Sum.inl [x7,ar x4 0,ar x4 1])else gd x2<|gd x3<|ge x5<|ge pd1<|ge x6<|ge pd3<|some (Sum.inl [x7,sd1,sd2])else gd x2<|gd x3<|ge x5<|ge pd1<|ge x6<|ge pd3<|some (Sum.inr [.int 0,sd1,sd2]):=by kernel_rfl
def vN:=by have h:= @Oy;simp only[aN,gd,aq,aj,az,aM,cond_true]at h;exact h
def BQ (Q:uAC):List D->uAC:=veil fun p s=>loW (rH Q p) s
theorem zg (Q:uAC):BQ Q=fun p s=>loW (rH Q p) s:=ak _
def vO (Q:uAC):Tb:=Tb.addL (Jz Q) 125 2 S125_2.n0 (bu S125_2 (BQ Q))
theorem FW (Q:uAC) (hQ:aY env.P 125 Ow Q):TbOk env (vO Q):=aF (Ox Q hQ) 125 2 (by kernel_rfl) _ (zg Q)
def LX (Q:uAC):uAC:=aS env (vO Q) 60 12 125 Ow
theorem Fb125_e (Q:uAC) (pd0:D) (sn0:Int) (sd1:D) (sd2:D):LX Q [pd0,(D.int sn0),sd1,sd2] =
 let x0:=cz sd2 sn0 (.bool true)
 let x1:=ay pd0 sn0
 let x2:=BQ Q [.int sn0,x1,.int (ai x1),pd0] [.int 0,sd1,x0]
 let x3:=bN (ar x2 1) (.list [.int sn0])
 let x4:=ai x3
 gd (ae .leq 0 sn0)<|gd (ae .lss sn0 (ai sd2))<|gd (aI sd2 sn0)<|gd (aI pd0 sn0)<|gd (ae .eql (ai sd1) (ai sd1))<|gd (ae .eql (ai sd2) (ai x0))<|gd (uZZ x2)<|gd (ae .eql (ai (ar x2 1)) (ai (ar x2 1)))<|gd (bF x4 8)<|gd (ae .eql x4 x4)<|gd (ae .eql (ai (ar x2 2)) (ai (ar x2 2)))<|ge pd0<|some [x3,ar x2 2]:=by kernel_rfl
def S1:=by have h:= @Fb125_e;simp only[aN,gd,aq,aj,az,aM,cond_true]at h;exact h
def S2:Nat->uAC:=levels LX
theorem F125_s (n:Nat):S2 (n+1)=LX (S2 n):=rfl
def Oz:uAC:=veil fun ds=>S2 (bE ds) ds
theorem LY:Oz=fun ds=>S2 (bE ds) ds:=ak _
theorem S3:aY env.P 125 Ow Oz:=nK (fun q=>vO q) (fun q hq=>FW q hq) LY
def S5:Tb:=Tb.addF tb96 125 Ow Oz
theorem S6:TbOk env S5:=TbOk.addF LW (by kernel_rfl) S3
def S126_1:LoopS:=⟨1,ufO 0 3::uF::utI::utI::uAA 24 [],[(.lst true 3)],[⟨0,0,uAB 28 [],[(.lst true 3)]⟩]⟩
def rI (p s:List D):Option (Sum (List D) (List D)):=aR env S5 60 12 126 (aW 126 1) S126_1 p s
theorem OA (sn0:Int) (sn1:Int) (sd2:D):rI [] [(D.int sn0),(D.int sn1),sd2] =
 let x0:=ae .leq 0 sn1
 let x1:=ai sd2
 let x2:=ae .lss sn1 x1
 let x3:=ae .leq 0 sn0
 let x4:=ae .lss sn0 x1
 let x5:=aI sd2 sn0
 let x6:=cz sd2 sn0 (.int (ah (ay sd2 sn1)))
 let x7:=cz x6 sn1 (.int (ah (ay sd2 sn0)))
 bif ae .lss sn0 sn1 then gd x0<|gd x2<|gd (aI sd2 sn1)<|gd x3<|gd x4<|gd x5<|gd x3<|gd x4<|gd x5<|gd x0<|gd x2<|gd (aI x6 sn1)<|gd (ae .eql x1 (ai x7))<|some (Sum.inl [.int (aQ .add .i64 sn0 1),.int (aQ .sub .i64 sn1 1),x7])else some (Sum.inr [.int 0,sd2]):=by kernel_rfl
def mA:=by have h:= @OA;simp only[aN,gd,aq,aj,az,aM,cond_true]at h;exact h
def BR:List D->uAC:=veil fun p s=>loW (rI p) s
theorem zh:BR=fun p s=>loW (rI p) s:=ak _
def vP:Tb:=Tb.addL S5 126 1 S126_1.n0 (bu S126_1 (BR))
theorem FX:TbOk env (vP):=aF S6 126 1 (by kernel_rfl) _ (zh)
def S126:FunS:=⟨[utO 0 3],[(.lst true 3)],[utS (.tup [])],[(.lst true 3)]⟩
def F126:uAC:=aS env vP 60 12 126 S126
theorem F126_e (sd0:D):F126 [sd0] =
 let x0:=ai sd0
 let x1:=BR [] [.int 0,.int (aQ .sub .i64 x0 1),sd0]
 gd (ae .eql x0 x0)<|gd (uZZ x1)<|some [ar x1 1]:=by kernel_rfl
def F126_eq:=by have h:= @F126_e;simp only[aN,gd,aq,aj,az,aM,cond_true]at h;exact h
def q126:uAC:=veil (F126)
theorem LZ:q126=F126:=ak _
def S7:Tb:=Tb.addF vP 126 S126 (q126)
theorem Ta:TbOk env (S7):=aG FX 126 (by kernel_rfl) _ (LZ)
def S95:FunS:=⟨[utR 46,utI],[],[utR 3],[]⟩
def F95:uAC:=aS env S7 60 12 95 S95
theorem F95_e (sd0:D) (sn1:Int):F95 [sd0,(D.int sn1)] =
 let x0:=ai sd0
 let x1:=D.list []
 let x2:=ot x0 (.bool false)
 let x3:=Oz [sd0,.int sn1,x1,x2]
 let x4:=ai (ar x3 0)
 let x5:=q126 [ar x3 0]
 bif ae .geq sn1 x0 then some [x1]else gd (ae .leq 0 x0)<|gd (ae .leq x0 x0)<|gd (bF x0 1)<|gd (ae .eql 0 (ai x1))<|gd (ae .eql x0 (ai x2))<|gd (uZZ x3)<|gd (ae .eql x4 x4)<|gd (uZZ x5)<|gd (ae .eql x4 (ai (ar x5 0)))<|some [ar x5 0]:=by kernel_rfl
def F95_eq:=by have h:= @F95_e;simp only[aN,gd,aq,aj,az,aM,cond_true]at h;exact h
def q95:uAC:=veil (F95)
theorem Tc:q95=F95:=ak _
def tb95:Tb:=Tb.addF S7 95 S95 (q95)
theorem ok_tb95:TbOk env (tb95):=aG Ta 95 (by kernel_rfl) _ (Tc)
def S51:FunS:=⟨[utD 25],[],[utR 3],[]⟩
def F51:uAC:=aS env tb95 60 12 51 S51
theorem F51_eq (sd0:D):F51 [sd0] =
 bif (uZZ (q96 [sd0]))then
 bif (uZZ (q95 [(ar (q96 [sd0]) 0),(D.int 0)]))then
 some [(ar (q95 [(ar (q96 [sd0]) 0),(D.int 0)]) 0)]
 else
 none
 else
 none:=by kernel_rfl
def q51:uAC:=veil (F51)
theorem Td:q51=F51:=ak _
def tb51:Tb:=Tb.addF tb95 51 S51 (q51)
theorem ok_tb51:TbOk env (tb51):=aG ok_tb95 51 (by kernel_rfl) _ (Td)
def S20_3:LoopS:=⟨0,uF::uF::ufN::ufO 0 4::uAA 7 (ufR 3::ufI::utI::uAA 8 []),[(.lst true 4)],[⟨0,0,uT::uT::utN::utO 0 4::uAB 7 (ufR 3::ufI::uAB 9 []),[(.lst true 4)]⟩]⟩
def BS (p s:List D):Option (Sum (List D) (List D)):=aR env tb51 60 12 20 (aW 20 3) S20_3 p s
theorem Te (pd0:D) (pn1:Int) (sn0:Int) (sd1:D):BS [pd0,(D.int pn1)] [(D.int sn0),sd1] =
 let x0:=ah (ay pd0 sn0)
 let x1:=ai sd1
 let x2:=cz sd1 x0 (.bool true)
 bif ae .lss sn0 pn1 then gd (aI pd0 sn0)<|gd (ae .leq 0 x0)<|gd (ae .lss x0 x1)<|gd (aI sd1 x0)<|gd (ae .eql x1 (ai x2))<|ge pd0<|ge (.int pn1)<|some (Sum.inl [.int (aQ .add .i64 sn0 1),x2])else gd (ae .eql x1 x1)<|ge pd0<|ge (.int pn1)<|some (Sum.inr [.int 0,sd1]):=by kernel_rfl
def zi:=by have h:= @Te;simp only[aN,gd,aq,aj,az,aM,cond_true]at h;exact h
def L0:List D->uAC:=veil fun p s=>loW (BS p) s
theorem FY:L0=fun p s=>loW (BS p) s:=ak _
def BT:Tb:=Tb.addL tb51 20 3 S20_3.n0 (bu S20_3 (L0))
theorem JA:TbOk env (BT):=aF ok_tb51 20 3 (by kernel_rfl) _ (FY)
def S20:FunS:=⟨[utD 25],[],[utR 4],[]⟩
def F20:uAC:=aS env BT 60 12 20 S20
theorem F20_e (sd0:D):F20 [sd0] =
 let x0:=ai (aa sd0 1)
 let x1:=q51 [sd0]
 let x2:=ot x0 (.bool false)
 let x3:=L0 [ar x1 0,.int (ai (ar x1 0))] [.int 0,x2]
 gd (ae .leq 0 x0)<|gd (ae .leq x0 x0)<|gd (bF x0 1)<|gd (uZZ x1)<|gd (ae .eql x0 (ai x2))<|gd (uZZ x3)<|gd (ae .eql (ai (ar x3 1)) (ai (ar x3 1)))<|some [ar x3 1]:=by kernel_rfl
def F20_eq:=by have h:= @F20_e;simp only[aN,gd,aq,aj,az,aM,cond_true]at h;exact h
def q20:uAC:=veil (F20)
theorem Tf:q20=F20:=ak _
def tb20:Tb:=Tb.addF BT 20 S20 (q20)
theorem ok_tb20:TbOk env (tb20):=aG JA 20 (by kernel_rfl) _ (Tf)
end
end Go.Proofs.YtfdedgmlafelaaaGreatDoor
open Go Go.AM
namespace Go.Proofs.YtfdedgmlafelaaaGreatDoor
end Go.Proofs.YtfdedgmlafelaaaGreatDoor
