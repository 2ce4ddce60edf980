/-
  Made by gen3.py: what functions of the seat compute, as partial functions on data, and that they do.
-/
import Derived.Test.YtiojjmlccehpoaaGreatM2
import Derived.KernelRfl
import Derived.Test.YtiojjmlccehpoaaGreatM1
set_option linter.defProp false
set_option linter.unusedSimpArgs false
set_option linter.unusedVariables false
set_option maxRecDepth 100000
open Go Go.AM
namespace Go.Proofs.YtiojjmlccehpoaaGreat
noncomputable section
def rY:FunS:=⟨[utP 0 0,utD 187],[(.lst true 106),(.lst true 106),(.mp true 9 106),(.mp true 106 3),(.lst true 106),(.lst true 46),(.cells [ufO 1 46,ufO 2 106,ufS (.map 3),ufS (.map 4),utI,ufR 9,ufR 9,ufS (.int .u32),ufI,ufO 5 106,ufO 6 106])],[utS (.tup [])],[(.lst true 106),(.lst true 106),(.lst true 106),(.lst true 46), .skip, .skip,(.mp true 9 106),(.mp true 106 3), .skip, .skip,(.cells [utO 7 46,utO 8 106,utS (.map 3),utS (.map 4),utI,ufR 9,ufR 9,ufS (.int .u32),ufI,utS (.oslc 9 106),utS (.oslc 10 106)])]⟩
def Nc (Q:uAC):Tb:=Tb.addF XZ 117 rY Q
theorem Su (Q:uAC) (hQ:aH env.P 117 rY Q):TbOk env (Nc Q):=TbOk.addF Jf (by kernel_rfl) hQ
def S56_1:LoopS:=⟨7,ufP 0 0::uAA 5 (ufR 187::ufI::utI::uAA 7 []),[(.lst true 106),(.lst true 106),(.lst true 106),(.lst true 46), .skip, .skip,(.mp true 9 106),(.mp true 106 3), .skip, .skip,(.cells [ufO 7 46,ufO 8 106,ufS (.map 3),ufS (.map 4),utI,ufR 9,ufR 9,ufS (.int .u32),ufI,ufO 9 106,ufO 10 106])],[⟨0,0,uAB 6 (ufR 187::ufI::uAB 8 []),[(.lst true 106),(.lst true 106),(.lst true 106),(.lst true 46), .skip, .skip,(.mp true 9 106),(.mp true 106 3), .skip, .skip,(.cells [utO 7 46,utO 8 106,utS (.map 3),utS (.map 4),utI,ufR 9,ufR 9,ufS (.int .u32),ufI,utO 9 106,utO 10 106])]⟩]⟩
def Fp (Q:uAC) (p s:List D):Option (Sum (List D) (List D)):=aP env (Nc Q) 60 12 56 (bb 56 1) S56_1 p s
theorem Yp (Q:uAC) (pd0:D) (pn1:Int) (pd2:D) (pd3:D) (pn4:Int) (pn5:Int) (sn0:Int) (sd1:D) (sd2:D) (sd3:D) (sd4:D) (sd5:D) (sd6:D) (sn7:Int):Fp Q [pd0,(D.int pn1),pd2,pd3,(D.int pn4),(D.int pn5)] [(D.int sn0),sd1,sd2,sd3,sd4,sd5,sd6,(D.int sn7)] =
 let y0:=ap (Q [pd2,pd3,(.int pn4),(.int pn5),(ay pd0 sn0),sd1,sd2,sd5,sd6,sd3,sd4,(.int sn7)])
 let y1:=ac (Q [pd2,pd3,(.int pn4),(.int pn5),(ay pd0 sn0),sd1,sd2,sd5,sd6,sd3,sd4,(.int sn7)]) 3
 let y2:=ac (Q [pd2,pd3,(.int pn4),(.int pn5),(ay pd0 sn0),sd1,sd2,sd5,sd6,sd3,sd4,(.int sn7)]) 2
 let y3:=ac (Q [pd2,pd3,(.int pn4),(.int pn5),(ay pd0 sn0),sd1,sd2,sd5,sd6,sd3,sd4,(.int sn7)]) 1
 let y4:=ac (Q [pd2,pd3,(.int pn4),(.int pn5),(ay pd0 sn0),sd1,sd2,sd5,sd6,sd3,sd4,(.int sn7)]) 0
 let y5:=ac (Q [pd2,pd3,(.int pn4),(.int pn5),(ay pd0 sn0),sd1,sd2,sd5,sd6,sd3,sd4,(.int sn7)]) 4
 let y6:=ac (Q [pd2,pd3,(.int pn4),(.int pn5),(ay pd0 sn0),sd1,sd2,sd5,sd6,sd3,sd4,(.int sn7)]) 5
 let y7:=ac (Q [pd2,pd3,(.int pn4),(.int pn5),(ay pd0 sn0),sd1,sd2,sd5,sd6,sd3,sd4,(.int sn7)]) 6
 let x0:=ab .eql (ae sd4) (ae sd4)
 let x1:=ab .eql (ae sd3) (ae sd3)
 let x2:=ab .eql (ae sd2) (ae sd2)
 let x3:=ab .eql (ae sd1) (ae sd1)
 bif ab .lss sn0 pn1 then gd (aS pd0 sn0)<|gd x0<|gd x1<|gd x2<|gd x3<|gd y0<|gd (ab .eql (ae y1) (ae y1))<|gd (ab .eql (ae y2) (ae y2))<|gd (ab .eql (ae y3) (ae y3))<|gd (ab .eql (ae y4) (ae y4))<|ge pd0<|ge (.int pn1)<|ge pd2<|ge pd3<|ge (.int pn4)<|ge (.int pn5)<|some (Sum.inl [.int (aM .add .i64 sn0 1),y4,y3,y2,y1,y5,y6,.int (ah y7)])else gd x0<|gd x1<|gd x2<|gd x3<|ge pd0<|ge (.int pn1)<|ge pd2<|ge pd3<|ge (.int pn4)<|ge (.int pn5)<|some (Sum.inr [.int 0,sd1,sd2,sd3,sd4,sd5,sd6,.int sn7]):=by kernel_rfl
def CK:=by have h:= @Yp;simp only[aF,gd,am,ak,ao,au,ar,aE,aj]at h;exact h
def Yq (Q:uAC):List D->uAC:=veil fun p s=>loW (Fp Q p) s
theorem JE (Q:uAC):Yq Q=fun p s=>loW (Fp Q p) s:=ai _
def Fq (Q:uAC):Tb:=Tb.addL (Nc Q) 56 1 S56_1.n0 (bQ S56_1 (Yq Q))
theorem z8 (Q:uAC) (hQ:aH env.P 117 rY Q):TbOk env (Fq Q):=aG (Su Q hQ) 56 1 (by kernel_rfl) _ (JE Q)
def S56:FunS:=⟨[utP 0 0,utR 187],[(.lst true 106),(.lst true 106),(.mp true 9 106),(.mp true 106 3),(.lst true 106),(.lst true 46),(.cells [ufO 1 46,ufO 2 106,ufS (.map 3),ufS (.map 4),utI,ufR 9,ufR 9,ufS (.int .u32),ufI,ufO 5 106,ufO 6 106])],[utS (.tup [])],[(.lst true 106),(.lst true 106),(.lst true 106),(.lst true 46), .skip, .skip,(.mp true 9 106),(.mp true 106 3), .skip, .skip,(.cells [utO 7 46,utO 8 106,utS (.map 3),utS (.map 4),utI,ufR 9,ufR 9,ufS (.int .u32),ufI,utO 9 106,utO 10 106])]⟩
def F56 (Q:uAC):uAC:=aO env (Fq Q) 60 12 56 S56
theorem F56_e (Q:uAC) (pd0:D) (pd1:D) (pn2:Int) (pn3:Int) (sd0:D) (sd1:D) (sd2:D) (sd3:D) (sd4:D) (sd5:D) (sd6:D) (sn7:Int):F56 Q [pd0,pd1,(D.int pn2),(D.int pn3),sd0,sd1,sd2,sd3,sd4,sd5,sd6,(D.int sn7)] =
 let y0:=Yq Q [sd0,(.int (ae sd0)),pd0,pd1,(.int pn2),(.int pn3)] [(.int 0),sd1,sd2,sd5,sd6,sd3,sd4,(.int sn7)]
 gd (ab .eql (ae sd6) (ae sd6))<|gd (ab .eql (ae sd5) (ae sd5))<|gd (ab .eql (ae sd2) (ae sd2))<|gd (ab .eql (ae sd1) (ae sd1))<|gd (ap y0)<|gd (ab .eql (ae (ac y0 4)) (ae (ac y0 4)))<|gd (ab .eql (ae (ac y0 3)) (ae (ac y0 3)))<|gd (ab .eql (ae (ac y0 2)) (ae (ac y0 2)))<|gd (ab .eql (ae (ac y0 1)) (ae (ac y0 1)))<|ge pd0<|ge pd1<|ge (.int pn2)<|ge (.int pn3)<|some [ac y0 1,ac y0 2,ac y0 3,ac y0 4,ac y0 5,ac y0 6,.int (ah (ac y0 7))]:=by kernel_rfl
def F56_eq:=by have h:= @F56_e;simp only[aF,gd,am,ak,ao,au,ar,aE,aj]at h;exact h
def q56 (Q:uAC):uAC:=veil (F56 Q)
theorem Nd (Q:uAC):q56 Q=F56 Q:=ai _
def tb56 (Q:uAC):Tb:=Tb.addF (Fq Q) 56 S56 (q56 Q)
theorem ok_tb56 (Q:uAC) (hQ:aH env.P 117 rY Q):TbOk env (tb56 Q):=aJ (z8 Q hQ) 56 (by kernel_rfl) _ (Nd Q)
def tbJ (Q:uAC):Tb:=Tb.addF (Tb.addF (Tb.addF tb61 49 S49 q49) 225 S225 R9) 56 S56 (q56 Q)
theorem ok_tbJ (Q:uAC) (hQ:aH env.P 117 rY Q):TbOk env (tbJ Q):=TbOk.addF (TbOk.addF (TbOk.addF Pm (by kernel_rfl) (by rw[MX];exact ey j8 Ps 60 12)) (by kernel_rfl) (by rw[Fc];exact ey j8 Pu 60 12)) (by kernel_rfl) (by rw[Nd];exact ey j8 (z8 Q hQ) 60 12)
def S171:FunS:=⟨[utP 0 0,utD 187],[(.lst true 106),(.lst true 106),(.mp true 9 106),(.mp true 106 3),(.lst true 106),(.lst true 46),(.cells [ufO 1 46,ufO 2 106,ufS (.map 3),ufS (.map 4),utI,ufR 9,ufR 9,ufS (.int .u32),ufI,ufO 5 106,ufO 6 106])],[utS (.tup [])],[(.lst true 106),(.lst true 106),(.lst true 106),(.lst true 46), .skip, .skip,(.mp true 9 106),(.mp true 106 3), .skip, .skip,(.cells [utO 7 46,utO 8 106,utS (.map 3),utS (.map 4),utI,ufR 9,ufR 9,ufS (.int .u32),ufI,utO 9 106,utO 10 106])]⟩
def F171 (Q:uAC):uAC:=aO env (tb56 Q) 60 12 171 S171
theorem F171_e (Q:uAC) (pd0:D) (pd1:D) (pn2:Int) (pn3:Int) (sd0:D) (sd1:D) (sd2:D) (sd3:D) (sd4:D) (sd5:D) (sd6:D) (sn7:Int):F171 Q [pd0,pd1,(D.int pn2),(D.int pn3),sd0,sd1,sd2,sd3,sd4,sd5,sd6,(D.int sn7)] =
 let y0:=q49 [sd1,sd2,sd3,sd4,sd5,sd6,pd0,pd1,(.int pn2),(.int pn3),(.int sn7)]
 let y1:=R9 [sd1,sd2,sd3,sd4,(.int (ah (ac y0 1))),pd0,pd1,(.int pn2),(.int pn3),(ay (aa sd0 3) 0),(.int (ah (ac y0 0))),sd5,sd6]
 let y2:=q56 Q [pd0,pd1,(.int pn2),(.int pn3),(aa sd0 4),sd1,sd2,sd3,sd4,(ac y1 0),(ac y1 1),(.int (ah (ac y0 1)))]
 let y3:=q57 [(ac y2 0),(ac y2 1),(ac y2 4),(ac y2 2),(ac y2 3),(.int (ah (ac y2 6))),pd0,pd1,(.int pn2),(.int pn3),(.int (ah (ac y0 0))),(ac y2 5)]
 let y4:=q49 [(ac y2 0),(ac y2 1),(ac y2 4),(ac y2 5),(ac y2 2),(ac y2 3),pd0,pd1,(.int pn2),(.int pn3),(.int (ah (ac y2 6)))]
 let y5:=zM [(ac y2 0),(ac y2 1),(ac y2 4),(ac y2 5),(.int (ah (ac y4 1))),pd0,pd1,(.int pn2),(.int pn3),(.int 0),(.int (ah (ac y4 0))),(ac y2 2),(ac y2 3)]
 let y6:=q57 [(ac y2 0),(ac y2 1),(ac y2 4),(ac y5 0),(ac y5 1),(.int (ah (ac y4 1))),pd0,pd1,(.int pn2),(.int pn3),(.int (ah (ac y0 0))),(ac y2 5)]
 let y7:=q56 Q [pd0,pd1,(.int pn2),(.int pn3),(aa sd0 5),(ac y2 0),(ac y2 1),(ac y2 4),(ac y6 0),(ac y5 0),(ac y5 1),(.int (ah (ac y4 1)))]
 let y8:=q57 [(ac y7 0),(ac y7 1),(ac y7 4),(ac y7 2),(ac y7 3),(.int (ah (ac y7 6))),pd0,pd1,(.int pn2),(.int pn3),(.int (ah (ac y4 0))),(ac y7 5)]
 let x0:=ab .eql (ae sd6) (ae sd6)
 let x1:=ab .eql (ae sd5) (ae sd5)
 let x2:=ab .eql (ae sd2) (ae sd2)
 let x3:=ab .eql (ae sd1) (ae sd1)
 let x4:=ae (ac y1 1)
 let x5:=ae (ac y1 0)
 let x6:=ab .eql (ae (ac y2 3)) (ae (ac y2 3))
 let x7:=ab .eql (ae (ac y2 2)) (ae (ac y2 2))
 let x8:=ab .eql (ae (ac y2 1)) (ae (ac y2 1))
 let x9:=ab .eql (ae (ac y2 0)) (ae (ac y2 0))
 let x10:=ae (ac y5 1)
 let x11:=ab .eql x10 x10
 let x12:=ae (ac y5 0)
 let x13:=ab .eql x12 x12
 let x14:=ab .eql (ae (ac y7 3)) (ae (ac y7 3))
 let x15:=ab .eql (ae (ac y7 2)) (ae (ac y7 2))
 let x16:=ab .eql (ae (ac y7 1)) (ae (ac y7 1))
 let x17:=ab .eql (ae (ac y7 0)) (ae (ac y7 0))
 gd x0<|gd x1<|gd x2<|gd x3<|gd (ap y0)<|gd (aS (aa sd0 3) 0)<|gd x0<|gd x1<|gd x2<|gd x3<|gd (ap y1)<|gd (ab .eql x4 x4)<|gd (ab .eql x5 x5)<|gd x2<|gd x3<|gd (ap y2)<|bif ab .eql (ae (aa sd0 5)) 0 then gd x6<|gd x7<|gd x8<|gd x9<|gd (ap y3)<|gd x6<|gd x7<|gd x8<|gd x9<|ge pd0<|ge pd1<|ge (.int pn2)<|ge (.int pn3)<|some [ac y2 0,ac y2 1,ac y2 2,ac y2 3,ac y2 4,ac y3 0,.int (ah (ac y2 6))]else gd x6<|gd x7<|gd x8<|gd x9<|gd (ap y4)<|gd x6<|gd x7<|gd x8<|gd x9<|gd (ap y5)<|gd x11<|gd x13<|gd x8<|gd x9<|gd (ap y6)<|gd x11<|gd x13<|gd x8<|gd x9<|gd (ap y7)<|gd x14<|gd x15<|gd x16<|gd x17<|gd (ap y8)<|gd x14<|gd x15<|gd x16<|gd x17<|ge pd0<|ge pd1<|ge (.int pn2)<|ge (.int pn3)<|some [ac y7 0,ac y7 1,ac y7 2,ac y7 3,ac y7 4,ac y8 0,.int (ah (ac y7 6))]:=by kernel_rfl
def PI:=by have h:= @F171_e;simp only[aF,gd,am,ak,ao,au,ar,aE,aj]at h;exact h
def q171 (Q:uAC):uAC:=veil (F171 Q)
theorem Fs (Q:uAC):q171 Q=F171 Q:=ai _
def tb171 (Q:uAC):Tb:=Tb.addF (tb56 Q) 171 S171 (q171 Q)
theorem Yr (Q:uAC) (hQ:aH env.P 117 rY Q):TbOk env (tb171 Q):=aJ (ok_tb56 Q hQ) 171 (by kernel_rfl) _ (Fs Q)
def S172:FunS:=⟨[utP 0 0,utD 187],[(.lst true 106),(.lst true 106),(.mp true 9 106),(.mp true 106 3),(.lst true 106),(.lst true 46),(.cells [ufO 1 46,ufO 2 106,ufS (.map 3),ufS (.map 4),utI,ufR 9,ufR 9,ufS (.int .u32),ufI,ufO 5 106,ufO 6 106])],[utS (.tup [])],[(.lst true 106),(.lst true 106),(.lst true 106),(.lst true 46), .skip, .skip,(.mp true 9 106),(.mp true 106 3), .skip, .skip,(.cells [utO 7 46,utO 8 106,utS (.map 3),utS (.map 4),utI,ufR 9,ufR 9,ufS (.int .u32),ufI,utS (.oslc 9 106),utS (.oslc 10 106)])]⟩
def F172 (Q:uAC):uAC:=aO env (tbJ Q) 60 12 172 S172
theorem F172_e (Q:uAC) (pd0:D) (pd1:D) (pn2:Int) (pn3:Int) (sd0:D) (sd1:D) (sd2:D) (sd3:D) (sd4:D) (sd5:D) (sd6:D) (sn7:Int):F172 Q [pd0,pd1,(D.int pn2),(D.int pn3),sd0,sd1,sd2,sd3,sd4,sd5,sd6,(D.int sn7)] =
 let y0:=q49 [sd1,sd2,sd3,sd4,sd5,sd6,pd0,pd1,(.int pn2),(.int pn3),(.int sn7)]
 let y1:=q49 [sd1,sd2,sd3,sd4,sd5,sd6,pd0,pd1,(.int pn2),(.int pn3),(.int (ah (ac y0 1)))]
 let y2:=ci (ab .eql (ae sd2) (ae sd2)) (ab .eql (ae sd1) (ae sd1))
 let y3:=ci (ab .eql pn2 pn2) (ci (ab .eql pn3 pn3) y2)
 let y4:=ci (ab .eql (ah (ac y1 1)) (ah (ac y1 1))) (ci (fV pd0 pd0) (ci (fV pd1 pd1) y3))
 let y5:=ci (ab .eql (ae sd6) (ae sd6)) (ci (ab .eql (ae sd5) (ae sd5)) y4)
 let y6:=dN 106 sd4 (.int (ah (ac y0 0))) (.int (ae sd6))
 let y7:=R9 [sd1,sd2,sd3,y6,(.int (ah (ac y1 1))),pd0,pd1,(.int pn2),(.int pn3),(ay (aa sd0 3) 0),(.int (ah (ac y1 0))),sd5,sd6]
 let y8:=cA (ae (bG sd2 (.list [(.int (ah (ac y0 0)))]))) 8
 let y9:=cA (ae (bG sd1 (.list [(.int (ah (ac y1 0)))]))) 8
 let y10:=ab .eql (ae (bG sd2 (.list [(.int (ah (ac y0 0)))]))) (ae (bG sd2 (.list [(.int (ah (ac y0 0)))])))
 let y11:=ab .eql (ae (bG sd1 (.list [(.int (ah (ac y1 0)))]))) (ae (bG sd1 (.list [(.int (ah (ac y1 0)))])))
 let y12:=q56 Q [pd0,pd1,(.int pn2),(.int pn3),(aa sd0 4),(bG sd1 (.list [(.int (ah (ac y1 0)))])),(bG sd2 (.list [(.int (ah (ac y0 0)))])),sd3,y6,(ac y7 0),(ac y7 1),(.int (ah (ac y1 1)))]
 let y13:=bG (ac y12 3) (.list [(.agg [(.int 0),(.int 0),(.int 20),(.int 2),(.int 0),(.int 0),(.int 0),(.int 0),(.int 0)])])
 let y14:=ae (bG (ac y12 2) (.list [(.int (ah (ac y0 0)))]))
 let y15:=ci (ab .eql (ae sd2) (ae sd2)) (ab .eql (ae sd2) (ae sd2))
 let y16:=ci (ab .eql pn2 pn2) (ci (ab .eql pn3 pn3) y15)
 let y17:=ci (ab .eql (ah (ac y12 6)) (ah (ac y12 6))) (ci (fV pd0 pd0) (ci (fV pd1 pd1) y16))
 let y18:=ci (ab .eql (ae y13) (ae y13)) (ci (ab .eql y14 y14) y17)
 let y19:=ab .eql (ae sd2) (ae (dr (ac y12 1) 0 (ae sd2)))
 let y20:=ab .eql (ae sd2) (ae (dr (ac y12 0) 0 (ae sd2)))
 let y21:=dN 106 (ac y12 5) (.int (ah (ac y1 0))) (.int (ae y13))
 let y22:=q56 Q [pd0,pd1,(.int pn2),(.int pn3),(aa sd0 4),(bG sd1 (.list [(.int (ah (ac y1 0)))])),(bG sd2 (.list [(.int (ah (ac y0 0)))])),sd3,y6,sd5,sd6,(.int (ah (ac y1 1)))]
 let y23:=bG (ac y22 3) (.list [(.agg [(.int 0),(.int 0),(.int 20),(.int 2),(.int 0),(.int 0),(.int 0),(.int 0),(.int 0)])])
 let y24:=ae (bG (ac y22 2) (.list [(.int (ah (ac y0 0)))]))
 let y25:=ci (ab .eql (ah (ac y22 6)) (ah (ac y22 6))) (ci (fV pd0 pd0) (ci (fV pd1 pd1) y16))
 let y26:=ci (ab .eql (ae y23) (ae y23)) (ci (ab .eql y24 y24) y25)
 let y27:=ab .eql (ae sd2) (ae (dr (ac y22 1) 0 (ae sd2)))
 let y28:=ab .eql (ae sd2) (ae (dr (ac y22 0) 0 (ae sd2)))
 let y29:=dN 106 (ac y22 5) (.int (ah (ac y1 0))) (.int (ae y23))
 let x0:=ab .eql (ae sd6) (ae sd6)
 let x1:=ab .eql (ae sd5) (ae sd5)
 let x2:=ae sd2
 let x3:=ab .eql x2 x2
 let x4:=ab .eql (ae sd1) (ae sd1)
 let x5:=ae (ac y7 1)
 let x6:=ae (ac y7 0)
 let x7:=ab .leq 0 x2
 let x8:=ae (ac y12 3)
 let x9:=ae y13
 let x10:=D.list [.int (ah (ac y0 0))]
 let x11:=ae (ac y22 3)
 let x12:=ae y23
 gd x0<|gd x1<|gd x3<|gd x4<|gd (ap y0)<|gd x0<|gd x1<|gd x3<|gd x4<|gd (ap y1)<|gd y5<|bif ab .eql (ah (aa sd0 0)) 7 then gd (aS (aa sd0 3) 0)<|gd x0<|gd x1<|gd x3<|gd x4<|gd (ap y7)<|gd x3<|gd y8<|gd x4<|gd y9<|gd (ab .eql x5 x5)<|gd (ab .eql x6 x6)<|gd y10<|gd y11<|gd (ap y12)<|gd x7<|gd (ab .leq x2 (ae (ac y12 1)))<|gd x7<|gd (ab .leq x2 (ae (ac y12 0)))<|gd (ab .eql x8 x8)<|gd (cA x9 64)<|gd (ab .eql (ae (ac y12 2)) (ae (ac y12 2)))<|gd (cA y14 8)<|gd y18<|gd (ab .eql x9 x9)<|gd (ab .eql y14 y14)<|gd y19<|gd y20<|ge pd0<|ge pd1<|ge (.int pn2)<|ge (.int pn3)<|some [dr (ac y12 0) 0 x2,dr (ac y12 1) 0 x2,bG (ac y12 2) x10,y13,ac y12 4,y21,.int (ah (ac y12 6))]else gd x3<|gd y8<|gd x4<|gd y9<|gd x0<|gd x1<|gd y10<|gd y11<|gd (ap y22)<|gd x7<|gd (ab .leq x2 (ae (ac y22 1)))<|gd x7<|gd (ab .leq x2 (ae (ac y22 0)))<|gd (ab .eql x11 x11)<|gd (cA x12 64)<|gd (ab .eql (ae (ac y22 2)) (ae (ac y22 2)))<|gd (cA y24 8)<|gd y26<|gd (ab .eql x12 x12)<|gd (ab .eql y24 y24)<|gd y27<|gd y28<|ge pd0<|ge pd1<|ge (.int pn2)<|ge (.int pn3)<|some [dr (ac y22 0) 0 x2,dr (ac y22 1) 0 x2,bG (ac y22 2) x10,y23,ac y22 4,y29,.int (ah (ac y22 6))]:=by kernel_rfl
def PJ:=by have h:= @F172_e;simp only[aF,gd,am,ak,ao,au,ar,aE,aj]at h;exact h
def q172 (Q:uAC):uAC:=veil (F172 Q)
theorem Ft (Q:uAC):q172 Q=F172 Q:=ai _
def tbK (Q:uAC):Tb:=Tb.addF (tb171 Q) 172 S172 (q172 Q)
theorem ok_tbK (Q:uAC) (hQ:aH env.P 117 rY Q):TbOk env (tbK Q):=TbOk.addF (Yr Q hQ) (by kernel_rfl) (by rw[Ft];exact ey j8 (ok_tbJ Q hQ) 60 12)
def S173_4:LoopS:=⟨7,ufP 0 0::uF::uF::ufP 11 0::ufP 12 0::uAA 12 (ufI::utI::uAA 52 []),[(.lst true 106),(.cells [ufO 13 106]),(.dat false 187),(.lst false 106),(.lst false 106),(.lst true 106),(.lst true 46), .skip, .skip,(.mp false 9 106),(.mp false 106 3), .skip, .skip,(.cells [ufO 7 46,ufO 8 106,ufS (.map 3),ufS (.map 4),utI,ufR 9,ufR 9,ufS (.int .u32),ufI,ufO 9 106,ufO 10 106])],[⟨0,0,utP 0 0::uT::uT::utP 11 0::utP 12 0::uAB 12 (ufI::uAB 53 []),[(.lst true 106),(.cells [utO 13 106]),(.dat false 187),(.lst false 106),(.lst false 106),(.lst true 106),(.lst true 46), .skip, .skip,(.mp false 9 106),(.mp false 106 3), .skip, .skip,(.cells [utO 7 46,utO 8 106,utS (.map 3),utS (.map 4),utI,ufR 9,ufR 9,ufS (.int .u32),ufI,utO 9 106,utO 10 106])]⟩]⟩
def vc (Q:uAC) (p s:List D):Option (Sum (List D) (List D)):=aP env (tbK Q) 60 12 173 (bb 173 4) S173_4 p s
theorem Sv (Q:uAC) (pn0:Int) (pd1:D) (pd2:D) (pd3:D) (pd4:D) (pd5:D) (pd6:D) (pd7:D) (pn8:Int) (pn9:Int) (sn0:Int) (sd1:D) (sd2:D) (sd3:D) (sn4:Int):vc Q [(D.int pn0),pd1,pd2,pd3,pd4,pd5,pd6,pd7,(D.int pn8),(D.int pn9)] [(D.int sn0),sd1,sd2,sd3,(D.int sn4)] =
 let y0:=q49 [pd2,pd3,pd4,pd5,sd2,sd3,pd6,pd7,(.int pn8),(.int pn9),(.int sn4)]
 let y1:=cA (ae (bG sd1 (.list [(.int (ah (ac y0 0)))]))) 8
 let y2:=q50 [pd2,pd3,pd4,pd5,(.int (ah (ac y0 1))),pd6,pd7,(.int pn8),(.int pn9),(.list [(.agg [(.int 0),(.int (fA .u32 sn0)),(.int 15),(.int 1),(.int 0),(.int 0),(.int 0),(.int 0),(.int 0)])]),sd2,sd3]
 let y3:=ab .lss sn0 (ae (bG sd1 (.list [(.int (ah (ac y0 0)))])))
 let y4:=ah (ay (bG sd1 (.list [(.int (ah (ac y0 0)))])) sn0)
 let y5:=zM [pd2,pd3,pd4,pd5,(.int (ah (ac y0 1))),pd6,pd7,(.int pn8),(.int pn9),(.int 1),(.int y4),(ac y2 0),(ac y2 1)]
 let y6:=ab .eql (ae (bG sd1 (.list [(.int (ah (ac y0 0)))]))) (ae (bG sd1 (.list [(.int (ah (ac y0 0)))])))
 let x0:=ab .eql (ae sd3) (ae sd3)
 let x1:=ab .eql (ae sd2) (ae sd2)
 let x2:=ab .eql (ae pd3) (ae pd3)
 let x3:=ab .eql (ae pd2) (ae pd2)
 let x4:=ab .eql (ae sd1) (ae sd1)
 let x5:=bG sd1 (.list [.int (ah (ac y0 0))])
 let x6:=ae (ac y2 1)
 let x7:=ae (ac y2 0)
 bif ab .lss sn0 pn0 then gd x0<|gd x1<|gd x2<|gd x3<|gd (ap y0)<|gd x4<|gd y1<|gd x0<|gd x1<|gd x2<|gd x3<|gd (ap y2)<|gd (ab .leq 0 sn0)<|gd y3<|gd (aS x5 sn0)<|gd (ab .eql x6 x6)<|gd (ab .eql x7 x7)<|gd x2<|gd x3<|gd (ap y5)<|gd y6<|gd (ab .eql (ae (ac y5 1)) (ae (ac y5 1)))<|gd (ab .eql (ae (ac y5 0)) (ae (ac y5 0)))<|gd x2<|gd x3<|ge (.int pn0)<|ge pd1<|ge pd2<|ge pd3<|ge pd4<|ge pd5<|ge pd6<|ge pd7<|ge (.int pn8)<|ge (.int pn9)<|some (Sum.inl [.int (aM .add .i64 sn0 1),x5,ac y5 0,ac y5 1,.int (ah (ac y0 1))])else gd x4<|gd x0<|gd x1<|gd x2<|gd x3<|ge (.int pn0)<|ge pd1<|ge pd2<|ge pd3<|ge pd4<|ge pd5<|ge pd6<|ge pd7<|ge (.int pn8)<|ge (.int pn9)<|some (Sum.inr [.int 0,sd1,sd2,sd3,.int sn4]):=by kernel_rfl
def Aa:=by have h:= @Sv;simp only[aF,gd,am,ak,ao,au,ar,aE,aj]at h;exact h
def Fu (Q:uAC):List D->uAC:=veil fun p s=>loW (vc Q p) s
theorem CL (Q:uAC):Fu Q=fun p s=>loW (vc Q p) s:=ai _
def Ab (Q:uAC):Tb:=Tb.addL (tbK Q) 173 4 S173_4.n0 (bQ S173_4 (Fu Q))
theorem JF (Q:uAC) (hQ:aH env.P 117 rY Q):TbOk env (Ab Q):=aG (ok_tbK Q hQ) 173 4 (by kernel_rfl) _ (CL Q)
def S173_13:LoopS:=⟨7,ufP 0 0::uF::uF::uF::ufP 11 0::uF::ufI::uAA 40 (ufR 36::ufI::utI::uAA 21 []),[(.lst false 106),(.cells [ufO 12 106]),(.lst true 106),(.lst true 106),(.lst true 106),(.lst true 46), .skip, .skip,(.mp true 9 106),(.mp true 106 3), .skip, .skip,(.cells [ufO 7 46,ufO 8 106,ufS (.map 3),ufS (.map 4),utI,ufR 9,ufR 9,ufS (.int .u32),ufI,ufO 9 106,ufO 10 106])],[⟨0,2,utP 0 0::uAB 5 (ufI::uAB 40 (ufR 36::ufI::uAB 22 [])),[(.lst false 106),(.cells [uT]),(.lst true 106),(.lst true 106),(.lst true 106),(.lst true 46), .skip, .skip,(.mp true 9 106),(.mp true 106 3), .skip, .skip,(.cells [utO 7 46,utO 8 106,utS (.map 3),utS (.map 4),utI,ufR 9,ufR 9,ufS (.int .u32),ufI,utO 9 106,utO 10 106])]⟩]⟩
def qb (Q:uAC) (p s:List D):Option (Sum (List D) (List D)):=aP env (Ab Q) 60 12 173 (bb 173 13) S173_13 p s
theorem Nf (Q:uAC) (pn0:Int) (pd1:D) (pn2:Int) (pd3:D) (pd4:D) (pd5:D) (pn6:Int) (pn7:Int) (sn0:Int) (sd1:D) (sd2:D) (sd3:D) (sd4:D) (sd5:D) (sd6:D) (sn7:Int):qb Q [(D.int pn0),pd1,(D.int pn2),pd3,pd4,pd5,(D.int pn6),(D.int pn7)] [(D.int sn0),sd1,sd2,sd3,sd4,sd5,sd6,(D.int sn7)] =
 let y0:=q57 [sd1,sd2,sd5,sd3,sd4,(.int sn7),pd4,pd5,(.int pn6),(.int pn7),(.int (ah (ay pd3 sn0))),sd6]
 let y1:=q56 Q [pd4,pd5,(.int pn6),(.int pn7),(ay pd1 sn0),sd1,sd2,sd5,(ac y0 0),sd3,sd4,(.int sn7)]
 let y2:=zM [(ac y1 0),(ac y1 1),(ac y1 4),(ac y1 5),(.int (ah (ac y1 6))),pd4,pd5,(.int pn6),(.int pn7),(.int 0),(.int pn0),(ac y1 2),(ac y1 3)]
 let x0:=ae pd3
 let x1:=ab .eql (ae sd4) (ae sd4)
 let x2:=ab .eql (ae sd3) (ae sd3)
 let x3:=ab .eql (ae sd2) (ae sd2)
 let x4:=ab .eql (ae sd1) (ae sd1)
 let x5:=ae (ac y1 3)
 let x6:=ae (ac y1 2)
 let x7:=ab .eql (ae (ac y1 1)) (ae (ac y1 1))
 let x8:=ab .eql (ae (ac y1 0)) (ae (ac y1 0))
 bif ab .lss sn0 pn2 then gd (aS pd1 sn0)<|gd (ab .leq 0 sn0)<|gd (ab .lss sn0 x0)<|gd (aS pd3 sn0)<|gd x1<|gd x2<|gd x3<|gd x4<|gd (ap y0)<|gd x1<|gd x2<|gd x3<|gd x4<|gd (ap y1)<|gd (ab .eql x5 x5)<|gd (ab .eql x6 x6)<|gd x7<|gd x8<|gd (ap y2)<|gd (ab .eql x0 x0)<|gd (ab .eql (ae (ac y2 1)) (ae (ac y2 1)))<|gd (ab .eql (ae (ac y2 0)) (ae (ac y2 0)))<|gd x7<|gd x8<|ge (.int pn0)<|ge pd1<|ge (.int pn2)<|ge pd3<|ge pd4<|ge pd5<|ge (.int pn6)<|ge (.int pn7)<|some (Sum.inl [.int (aM .add .i64 sn0 1),ac y1 0,ac y1 1,ac y2 0,ac y2 1,ac y1 4,ac y1 5,.int (ah (ac y1 6))])else gd x1<|gd x2<|gd x3<|gd x4<|ge (.int pn0)<|ge pd1<|ge (.int pn2)<|ge pd3<|ge pd4<|ge pd5<|ge (.int pn6)<|ge (.int pn7)<|some (Sum.inr [.int 0,sd1,sd2,sd3,sd4,sd5,sd6,.int sn7]):=by kernel_rfl
def tI:=by have h:= @Nf;simp only[aF,gd,am,ak,ao,au,ar,aE,aj]at h;exact h
def ve (Q:uAC):List D->uAC:=veil fun p s=>loW (qb Q p) s
theorem Ac (Q:uAC):ve Q=fun p s=>loW (qb Q p) s:=ai _
def rZ (Q:uAC):Tb:=Tb.addL (Ab Q) 173 13 S173_13.n0 (bQ S173_13 (ve Q))
theorem Fv (Q:uAC) (hQ:aH env.P 117 rY Q):TbOk env (rZ Q):=aG (JF Q hQ) 173 13 (by kernel_rfl) _ (Ac Q)
def S173:FunS:=⟨[utP 0 0,utD 187],[(.lst true 106),(.lst true 106),(.mp true 9 106),(.mp true 106 3),(.lst true 106),(.lst true 46),(.cells [ufO 1 46,ufO 2 106,ufS (.map 3),ufS (.map 4),utI,ufR 9,ufR 9,ufS (.int .u32),ufI,ufO 5 106,ufO 6 106])],[utS (.tup [])],[(.lst true 106),(.lst true 106),(.lst true 106),(.lst true 46), .skip, .skip,(.mp true 9 106),(.mp true 106 3), .skip, .skip,(.cells [utO 7 46,utO 8 106,utS (.map 3),utS (.map 4),utI,ufR 9,ufR 9,ufS (.int .u32),ufI,utO 9 106,utO 10 106])]⟩
def F173 (Q:uAC):uAC:=aO env (rZ Q) 60 12 173 S173
theorem F173_e (Q:uAC) (pd0:D) (pd1:D) (pn2:Int) (pn3:Int) (sd0:D) (sd1:D) (sd2:D) (sd3:D) (sd4:D) (sd5:D) (sd6:D) (sn7:Int):F173 Q [pd0,pd1,(D.int pn2),(D.int pn3),sd0,sd1,sd2,sd3,sd4,sd5,sd6,(D.int sn7)] =
 let y0:=q42 [sd1,sd2,sd3,sd4,(.int sn7),pd0,pd1,(.int pn2),(.int pn3),(ay (aa sd0 3) 0),sd5,sd6]
 let y1:=Fu Q [(.int (ae (aa sd0 6))),sd0,sd1,sd2,sd3,sd4,pd0,pd1,(.int pn2),(.int pn3)] [(.int 0),(.list []),(ac y0 0),(ac y0 1),(.int sn7)]
 let y2:=q50 [sd1,sd2,sd3,sd4,(.int (ah (ac y1 4))),pd0,pd1,(.int pn2),(.int pn3),(.list [(.agg [(.int 0),(.int 4294967295),(.int 5),(.int 2),(.int 0),(.int 0),(.int 0),(.int 0),(.int 0)]),(.agg [(.int 0),(.int 0),(.int 21),(.int 0),(.int 0),(.int 0),(.int 0),(.int 0),(.int 0)])]),(ac y1 2),(ac y1 3)]
 let y3:=q49 [sd1,sd2,sd3,sd4,(ac y2 0),(ac y2 1),pd0,pd1,(.int pn2),(.int pn3),(.int (ah (ac y1 4)))]
 let y4:=ve Q [(.int (ah (ac y3 0))),(aa sd0 6),(.int (ae (aa sd0 6))),(ac y1 1),pd0,pd1,(.int pn2),(.int pn3)] [(.int 0),sd1,sd2,(ac y2 0),(ac y2 1),sd3,sd4,(.int (ah (ac y3 1)))]
 let y5:=q57 [(ac y4 1),(ac y4 2),(ac y4 5),(ac y4 3),(ac y4 4),(.int (ah (ac y4 7))),pd0,pd1,(.int pn2),(.int pn3),(.int (ah (ac y3 0))),(ac y4 6)]
 let x0:=ab .eql (ae sd2) (ae sd2)
 let x1:=ab .eql (ae sd1) (ae sd1)
 let x2:=ae (ac y0 1)
 let x3:=ae (ac y0 0)
 let x4:=ae (ac y1 3)
 let x5:=ae (ac y1 2)
 let x6:=ae (ac y2 1)
 let x7:=ab .eql x6 x6
 let x8:=ae (ac y2 0)
 let x9:=ab .eql x8 x8
 let x10:=ae (ac y1 1)
 let x11:=ab .eql (ae (ac y4 4)) (ae (ac y4 4))
 let x12:=ab .eql (ae (ac y4 3)) (ae (ac y4 3))
 let x13:=ab .eql (ae (ac y4 2)) (ae (ac y4 2))
 let x14:=ab .eql (ae (ac y4 1)) (ae (ac y4 1))
 gd (aS (aa sd0 3) 0)<|gd (ab .eql (ae sd6) (ae sd6))<|gd (ab .eql (ae sd5) (ae sd5))<|gd x0<|gd x1<|gd (ap y0)<|gd (ab .eql 0 (ae (.list [])))<|gd (ab .eql x2 x2)<|gd (ab .eql x3 x3)<|gd x0<|gd x1<|gd (ap y1)<|gd (ab .eql x4 x4)<|gd (ab .eql x5 x5)<|gd x0<|gd x1<|gd (ap y2)<|gd x7<|gd x9<|gd x0<|gd x1<|gd (ap y3)<|gd (ab .eql x10 x10)<|gd x7<|gd x9<|gd x0<|gd x1<|gd (ap y4)<|gd x11<|gd x12<|gd x13<|gd x14<|gd (ap y5)<|gd x11<|gd x12<|gd x13<|gd x14<|ge pd0<|ge pd1<|ge (.int pn2)<|ge (.int pn3)<|some [ac y4 1,ac y4 2,ac y4 3,ac y4 4,ac y4 5,ac y5 0,.int (ah (ac y4 7))]:=by kernel_rfl
def F173_eq:=by have h:= @F173_e;simp only[aF,gd,am,ak,ao,au,ar,aE,aj]at h;exact h
def q173 (Q:uAC):uAC:=veil (F173 Q)
theorem PK (Q:uAC):q173 Q=F173 Q:=ai _
def Ys (Q:uAC):Tb:=Tb.addF (rZ Q) 173 S173 (q173 Q)
theorem Yt (Q:uAC) (hQ:aH env.P 117 rY Q):TbOk env (Ys Q):=aJ (Fv Q hQ) 173 (by kernel_rfl) _ (PK Q)
def eN (Q:uAC):uAC:=aO env (Ys Q) 60 12 117 rY
theorem Fb117_e (Q:uAC) (pd0:D) (pd1:D) (pn2:Int) (pn3:Int) (sd0:D) (sd1:D) (sd2:D) (sd3:D) (sd4:D) (sd5:D) (sd6:D) (sn7:Int):eN Q [pd0,pd1,(D.int pn2),(D.int pn3),sd0,sd1,sd2,sd3,sd4,sd5,sd6,(D.int sn7)] =
 let y0:=q42 [sd1,sd2,sd3,sd4,(.int sn7),pd0,pd1,(.int pn2),(.int pn3),(ay (aa sd0 3) 0),sd5,sd6]
 let y1:=q59 [sd1,sd2,sd3,sd4,(.int sn7),pd0,pd1,(.int pn2),(.int pn3),(.str (aB (aa sd0 2))),(ac y0 0),(ac y0 1)]
 let y2:=q50 [sd1,sd2,sd3,sd4,(.int sn7),pd0,pd1,(.int pn2),(.int pn3),(.list [(.agg [(.int 0),(.int 0),(.int 3),(.int 0),(.int 0),(.int 0),(.int 0),(.int 0),(.int 0)])]),(ac y0 0),(ac y0 1)]
 let y3:=q42 [sd1,sd2,sd3,sd4,(.int sn7),pd0,pd1,(.int pn2),(.int pn3),(ay (aa sd0 3) 1),(ac y2 0),(ac y2 1)]
 let y4:=q50 [sd1,sd2,sd3,sd4,(.int sn7),pd0,pd1,(.int pn2),(.int pn3),(.list [(.agg [(.int 0),(.int 0),(.int 4),(.int 0),(.int 0),(.int 0),(.int 2),(.int 0),(.int 0)]),(.agg [(.int 0),(.int 0),(.int 18),(.int 0),(.int (ah (aa sd0 1))),(.int 0),(.int 0),(.int 2),(.int 0)])]),(ac y3 0),(ac y3 1)]
 let y5:=q50 [sd1,sd2,sd3,sd4,(.int sn7),pd0,pd1,(.int pn2),(.int pn3),(.list [(.agg [(.int 0),(.int 0),(.int 26),(.int 0),(.int 0),(.int 0),(.int 0),(.int 0),(.int 0)])]),sd5,sd6]
 let y6:=q59 [sd1,sd2,sd3,sd4,(.int sn7),pd0,pd1,(.int pn2),(.int pn3),(.str (aB (aa sd0 2))),(ac y5 0),(ac y5 1)]
 let y7:=q50 [sd1,sd2,sd3,sd4,(.int sn7),pd0,pd1,(.int pn2),(.int pn3),(.list [(.agg [(.int 0),(.int 0),(.int 27),(.int 0),(.int 0),(.int 0),(.int 0),(.int 0),(.int 0)])]),(ac y0 0),(ac y0 1)]
 let y8:=R8 [sd1,sd2,sd3,sd4,sd5,(.int sn7),pd0,pd1,(.int pn2),(.int pn3),(.list [(.agg [(.int 0),(.int 0),(.int 23),(.int 0),(.int 0),(.int 0),(.int 0),(.int 0),(.int 0)])]),sd6]
 let y9:=A3 [pd1,(.str (aB (aa sd0 2)))]
 let y10:=Jc [sd1,sd2,sd3,sd4,(ac y8 0),(.int sn7),pd0,pd1,(.int pn2),(.int pn3),(.list [(.int (aM .sub .i64 (-2) (ah (ac y9 0))))]),sd5]
 let y11:=q171 Q [pd0,pd1,(.int pn2),(.int pn3),sd0,sd1,sd2,sd3,sd4,sd5,sd6,(.int sn7)]
 let y12:=ab .eql (ae (ac y11 1)) (ae (dr (ac y11 1) 0 (ae (ac y11 1))))
 let y13:=ab .eql (ae (ac y11 0)) (ae (dr (ac y11 0) 0 (ae (ac y11 0))))
 let y14:=aw (ab .eql (ah (aa sd0 0)) 7) (ab .eql (ah (aa sd0 0)) 7) (ab .eql (ah (aa sd0 0)) 8)
 let y15:=q172 Q [pd0,pd1,(.int pn2),(.int pn3),sd0,sd1,sd2,sd3,sd4,sd5,sd6,(.int sn7)]
 let y16:=ab .eql (ae (ac y15 1)) (ae (dr (ac y15 1) 0 (ae (ac y15 1))))
 let y17:=ab .eql (ae (ac y15 0)) (ae (dr (ac y15 0) 0 (ae (ac y15 0))))
 let y18:=q173 Q [pd0,pd1,(.int pn2),(.int pn3),sd0,sd1,sd2,sd3,sd4,sd5,sd6,(.int sn7)]
 let y19:=ab .eql (ae (ac y18 1)) (ae (dr (ac y18 1) 0 (ae (ac y18 1))))
 let y20:=ab .eql (ae (ac y18 0)) (ae (dr (ac y18 0) 0 (ae (ac y18 0))))
 let y21:=ab .lss (aM .sub .i64 (ae sd1) 1) (ae sd1)
 let y22:=zM [sd1,sd2,sd3,sd4,(.int sn7),pd0,pd1,(.int pn2),(.int pn3),(.int 0),(.int (ah (ay sd1 (aM .sub .i64 (ae sd1) 1)))),sd5,sd6]
 let y23:=ci (ab .eql (ae sd2) (ae sd2)) (ab .eql (ae sd1) (ae sd1))
 let y24:=ci (ab .eql pn2 pn2) (ci (ab .eql pn3 pn3) y23)
 let y25:=ci (ab .eql sn7 sn7) (ci (fV pd0 pd0) (ci (fV pd1 pd1) y24))
 let y26:=ci (ab .eql (ae sd6) (ae sd6)) (ci (ab .eql (ae sd5) (ae sd5)) y25)
 let y27:=ab .lss (aM .sub .i64 (ae sd2) 1) (ae sd2)
 let y28:=zM [sd1,sd2,sd3,sd4,(.int sn7),pd0,pd1,(.int pn2),(.int pn3),(.int 0),(.int (ah (ay sd2 (aM .sub .i64 (ae sd2) 1)))),sd5,sd6]
 let y29:=XY [sd1,sd2,sd4,sd5,sd6,pd0,pd1,(.int pn2),(.int pn3),(.str (aB (aa sd0 2))),sd3,(.int sn7)]
 let y30:=zM [sd1,sd2,(ac y29 1),sd4,(.int (ah (ac y29 2))),pd0,pd1,(.int pn2),(.int pn3),(.int 0),(.int (ah (ac y29 0))),sd5,sd6]
 let y31:=q57 [sd1,sd2,(ac y29 1),sd5,sd6,(.int (ah (ac y29 2))),pd0,pd1,(.int pn2),(.int pn3),(.int (ah (ac y29 0))),sd4]
 let y32:=zM [sd1,sd2,sd3,sd4,(.int sn7),pd0,pd1,(.int pn2),(.int pn3),(.int 0),(.int pn3),sd5,sd6]
 let y33:=q50 [sd1,sd2,sd3,sd4,(.int sn7),pd0,pd1,(.int pn2),(.int pn3),(.list [(.agg [(.int 0),(.int 0),(.int 1),(.int 0),(.int 0),(.int 0),(.int 0),(.int 0),(.int 0)])]),sd5,sd6]
 let x0:=ah (aa sd0 0)
 let x1:=aS (aa sd0 3) 0
 let x2:=ab .eql (ae sd6) (ae sd6)
 let x3:=ab .eql (ae sd5) (ae sd5)
 let x4:=ae sd2
 let x5:=ab .eql x4 x4
 let x6:=ae sd1
 let x7:=ab .eql x6 x6
 let x8:=ap y0
 let x9:=ae (ac y0 1)
 let x10:=ab .eql x9 x9
 let x11:=ae (ac y0 0)
 let x12:=ab .eql x11 x11
 let x13:=dr sd2 0 x4
 let x14:=ab .eql x4 (ae x13)
 let x15:=dr sd1 0 x6
 let x16:=ab .eql x6 (ae x15)
 let x17:=D.int pn2
 let x18:=D.int pn3
 let x19:=D.int sn7
 let x20:=ae (ac y2 1)
 let x21:=ae (ac y2 0)
 let x22:=ae (ac y3 1)
 let x23:=ae (ac y3 0)
 let x24:=ae (ac y5 1)
 let x25:=ae (ac y5 0)
 let x26:=ab .eql (ae (ac y8 0)) (ae (ac y8 0))
 let x27:=aM .sub .i64 x6 1
 let x28:=aM .sub .i64 x4 1
 let x29:=D.int (ah (ac y29 2))
 bif ab .eql x0 1 then gd x1<|gd x2<|gd x3<|gd x5<|gd x7<|gd x8<|gd x10<|gd x12<|gd x5<|gd x7<|gd (ap y1)<|gd (ab .eql (ae (ac y1 1)) (ae (ac y1 1)))<|gd (ab .eql (ae (ac y1 0)) (ae (ac y1 0)))<|gd x14<|gd x16<|ge pd0<|ge pd1<|ge x17<|ge x18<|some [x15,x13,ac y1 0,ac y1 1,sd3,sd4,x19]else bif ab .eql x0 2 then gd x1<|gd x2<|gd x3<|gd x5<|gd x7<|gd x8<|gd x10<|gd x12<|gd x5<|gd x7<|gd (ap y2)<|gd (aS (aa sd0 3) 1)<|gd (ab .eql x20 x20)<|gd (ab .eql x21 x21)<|gd x5<|gd x7<|gd (ap y3)<|gd (ab .eql x22 x22)<|gd (ab .eql x23 x23)<|gd x5<|gd x7<|gd (ap y4)<|gd (ab .eql (ae (ac y4 1)) (ae (ac y4 1)))<|gd (ab .eql (ae (ac y4 0)) (ae (ac y4 0)))<|gd x14<|gd x16<|ge pd0<|ge pd1<|ge x17<|ge x18<|some [x15,x13,ac y4 0,ac y4 1,sd3,sd4,x19]else bif ab .eql x0 3 then gd x2<|gd x3<|gd x5<|gd x7<|gd (ap y5)<|gd (ab .eql x24 x24)<|gd (ab .eql x25 x25)<|gd x5<|gd x7<|gd (ap y6)<|gd (ab .eql (ae (ac y6 1)) (ae (ac y6 1)))<|gd (ab .eql (ae (ac y6 0)) (ae (ac y6 0)))<|gd x14<|gd x16<|ge pd0<|ge pd1<|ge x17<|ge x18<|some [x15,x13,ac y6 0,ac y6 1,sd3,sd4,x19]else bif ab .eql x0 4 then gd x1<|gd x2<|gd x3<|gd x5<|gd x7<|gd x8<|gd x10<|gd x12<|gd x5<|gd x7<|gd (ap y7)<|gd (ab .eql (ae (ac y7 1)) (ae (ac y7 1)))<|gd (ab .eql (ae (ac y7 0)) (ae (ac y7 0)))<|gd x14<|gd x16<|ge pd0<|ge pd1<|ge x17<|ge x18<|some [x15,x13,ac y7 0,ac y7 1,sd3,sd4,x19]else bif ab .eql x0 5 then gd x2<|gd x3<|gd x5<|gd x7<|gd (ap y8)<|gd (ap y9)<|gd x26<|gd x3<|gd x5<|gd x7<|gd (ap y10)<|gd x26<|gd (ab .eql (ae (ac y10 0)) (ae (ac y10 0)))<|gd x14<|gd x16<|ge pd0<|ge pd1<|ge x17<|ge x18<|some [x15,x13,ac y10 0,ac y8 0,sd3,sd4,x19]else bif ab .eql x0 6 then gd x2<|gd x3<|gd x5<|gd x7<|gd (ap y11)<|gd (ab .eql (ae (ac y11 3)) (ae (ac y11 3)))<|gd (ab .eql (ae (ac y11 2)) (ae (ac y11 2)))<|gd y12<|gd y13<|ge pd0<|ge pd1<|ge x17<|ge x18<|some [dr (ac y11 0) 0 (ae (ac y11 0)),dr (ac y11 1) 0 (ae (ac y11 1)),ac y11 2,ac y11 3,ac y11 4,ac y11 5,.int (ah (ac y11 6))]else bif y14 then gd x2<|gd x3<|gd x5<|gd x7<|gd (ap y15)<|gd (ab .eql (ae (ac y15 3)) (ae (ac y15 3)))<|gd (ab .eql (ae (ac y15 2)) (ae (ac y15 2)))<|gd y16<|gd y17<|ge pd0<|ge pd1<|ge x17<|ge x18<|some [dr (ac y15 0) 0 (ae (ac y15 0)),dr (ac y15 1) 0 (ae (ac y15 1)),ac y15 2,ac y15 3,ac y15 4,ac y15 5,.int (ah (ac y15 6))]else bif ab .eql x0 9 then gd x2<|gd x3<|gd x5<|gd x7<|gd (ap y18)<|gd (ab .eql (ae (ac y18 3)) (ae (ac y18 3)))<|gd (ab .eql (ae (ac y18 2)) (ae (ac y18 2)))<|gd y19<|gd y20<|ge pd0<|ge pd1<|ge x17<|ge x18<|some [dr (ac y18 0) 0 (ae (ac y18 0)),dr (ac y18 1) 0 (ae (ac y18 1)),ac y18 2,ac y18 3,ac y18 4,ac y18 5,.int (ah (ac y18 6))]else bif ab .eql x0 10 then gd (ab .leq 0 x27)<|gd y21<|gd (aS sd1 x27)<|gd x2<|gd x3<|gd x5<|gd x7<|gd (ap y22)<|gd y26<|gd (ab .eql (ae (ac y22 1)) (ae (ac y22 1)))<|gd (ab .eql (ae (ac y22 0)) (ae (ac y22 0)))<|gd x14<|gd x16<|ge pd0<|ge pd1<|ge x17<|ge x18<|some [x15,x13,ac y22 0,ac y22 1,sd3,sd4,x19]else bif ab .eql x0 11 then gd (ab .leq 0 x28)<|gd y27<|gd (aS sd2 x28)<|gd x2<|gd x3<|gd x5<|gd x7<|gd (ap y28)<|gd y26<|gd (ab .eql (ae (ac y28 1)) (ae (ac y28 1)))<|gd (ab .eql (ae (ac y28 0)) (ae (ac y28 0)))<|gd x14<|gd x16<|ge pd0<|ge pd1<|ge x17<|ge x18<|some [x15,x13,ac y28 0,ac y28 1,sd3,sd4,x19]else bif ab .eql x0 12 then gd x2<|gd x3<|gd x5<|gd x7<|gd (ap y29)<|gd x2<|gd x3<|gd x5<|gd x7<|gd (ap y30)<|gd (ab .eql (ae (ac y30 1)) (ae (ac y30 1)))<|gd (ab .eql (ae (ac y30 0)) (ae (ac y30 0)))<|gd x14<|gd x16<|ge pd0<|ge pd1<|ge x17<|ge x18<|some [x15,x13,ac y30 0,ac y30 1,ac y29 1,sd4,x29]else bif ab .eql x0 13 then gd x2<|gd x3<|gd x5<|gd x7<|gd (ap y29)<|gd x2<|gd x3<|gd x5<|gd x7<|gd (ap y31)<|gd x2<|gd x3<|gd x14<|gd x16<|ge pd0<|ge pd1<|ge x17<|ge x18<|some [x15,x13,sd5,sd6,ac y29 1,ac y31 0,x29]else bif ab .eql x0 14 then gd x2<|gd x3<|gd x5<|gd x7<|gd (ap y32)<|gd (ab .eql (ae (ac y32 1)) (ae (ac y32 1)))<|gd (ab .eql (ae (ac y32 0)) (ae (ac y32 0)))<|gd x14<|gd x16<|ge pd0<|ge pd1<|ge x17<|ge x18<|some [x15,x13,ac y32 0,ac y32 1,sd3,sd4,x19]else bif ab .eql x0 15 then gd x2<|gd x3<|gd x5<|gd x7<|gd (ap y33)<|gd (ab .eql (ae (ac y33 1)) (ae (ac y33 1)))<|gd (ab .eql (ae (ac y33 0)) (ae (ac y33 0)))<|gd x14<|gd x16<|ge pd0<|ge pd1<|ge x17<|ge x18<|some [x15,x13,ac y33 0,ac y33 1,sd3,sd4,x19]else gd x2<|gd x3<|gd x14<|gd x16<|ge pd0<|ge pd1<|ge x17<|ge x18<|some [x15,x13,sd5,sd6,sd3,sd4,x19]:=by kernel_rfl
def cK:=by have h:= @Fb117_e;simp only[aF,gd,am,ak,ao,au,ar,aE,aj]at h;exact h
def Ng:Nat->uAC:=levels eN
theorem Yu (n:Nat):Ng (n+1)=eN (Ng n):=rfl
def Nh:uAC:=veil fun ds=>Ng (aY ds) ds
theorem PM:Nh=fun ds=>Ng (aY ds) ds:=ai _
theorem Yv:aH env.P 117 rY Nh:=gM (fun q=>Ys q) (fun q hq=>Yt q hq) PM
def Yw:Tb:=Tb.addF XZ 117 rY Nh
theorem Yx:TbOk env Yw:=TbOk.addF Jf (by kernel_rfl) Yv
def S60_3:LoopS:=⟨7,ufP 0 0::uF::ufN::ufP 7 0::uAA 6 (ufO 2 106::ufI::utI::uAA 19 []),[(.lst true 3),(.cells [ufO 8 3]),(.lst false 106),(.lst false 106),(.mp false 9 106),(.mp false 106 3),(.lst false 106),(.lst false 46),(.cells [ufO 1 46,ufO 2 106,ufS (.map 3),ufS (.map 4),ufI,ufR 9,ufR 9,ufS (.int .u32),ufI,ufO 5 106,ufO 6 106])],[⟨0,0,uT::uT::utN::utP 7 0::uAB 7 (ufI::uAB 20 []),[(.lst true 3),(.cells [utO 8 3]),(.lst false 106),(.lst false 106),(.mp false 9 106),(.mp false 106 3),(.lst false 106),(.lst false 46),(.cells [utO 1 46,utO 2 106,utS (.map 3),utS (.map 4),ufI,ufR 9,ufR 9,ufS (.int .u32),ufI,utO 5 106,utO 6 106])]⟩]⟩
def Fw (p s:List D):Option (Sum (List D) (List D)):=aP env Yw 60 12 60 (bb 60 3) S60_3 p s
theorem Yy (pn0:Int) (pd1:D) (pd2:D) (pd3:D) (pd4:D) (pd5:D) (pd6:D) (pn7:Int) (pd8:D) (pd9:D) (pn10:Int) (pn11:Int) (sn0:Int) (sd1:D):Fw [(D.int pn0),pd1,pd2,pd3,pd4,pd5,pd6,(D.int pn7),pd8,pd9,(D.int pn10),(D.int pn11)] [(D.int sn0),sd1] =
 let y0:=ah (lr 106 (.int 0) pd4 (.int (ah (ay pd5 sn0))))
 let y1:=ab .eql (ae (bG sd1 (.list [(.int y0)]))) (ae (bG sd1 (.list [(.int y0)])))
 let y2:=cA (ae (bG sd1 (.list [(.int (ah (ay pd5 sn0)))]))) 8
 let y3:=ab .eql (ae (bG sd1 (.list [(.int (ah (ay pd5 sn0)))]))) (ae (bG sd1 (.list [(.int (ah (ay pd5 sn0)))])))
 let x0:=ae pd5
 let x1:=ah (ay pd5 sn0)
 let x2:=ab .eql (ae sd1) (ae sd1)
 let x3:=bG sd1 (.list [.int y0])
 let x4:=ab .eql x0 x0
 let x5:=ab .eql (ae pd6) (ae pd6)
 let x6:=ab .eql (ae pd2) (ae pd2)
 let x7:=ab .eql (ae pd1) (ae pd1)
 let x8:=D.int pn0
 let x9:=D.int pn7
 let x10:=D.int pn10
 let x11:=D.int pn11
 let x12:=D.int (aM .add .i64 sn0 1)
 bif ab .lss sn0 pn0 then gd (ab .leq 0 sn0)<|gd (ab .lss sn0 x0)<|gd (aS pd5 sn0)<|bif ab .geq x1 0 then gd x2<|gd (cA (ae x3) 8)<|gd x4<|gd y1<|gd x5<|gd x4<|gd x6<|gd x7<|ge x8<|ge pd1<|ge pd2<|ge pd3<|ge pd4<|ge pd5<|ge pd6<|ge x9<|ge pd8<|ge pd9<|ge x10<|ge x11<|some (Sum.inl [x12,x3])else gd x2<|gd y2<|gd x4<|gd y3<|gd x5<|gd x4<|gd x6<|gd x7<|ge x8<|ge pd1<|ge pd2<|ge pd3<|ge pd4<|ge pd5<|ge pd6<|ge x9<|ge pd8<|ge pd9<|ge x10<|ge x11<|some (Sum.inl [x12,bG sd1 (.list [.int x1])])else gd x2<|gd x5<|gd x4<|gd x6<|gd x7<|ge x8<|ge pd1<|ge pd2<|ge pd3<|ge pd4<|ge pd5<|ge pd6<|ge x9<|ge pd8<|ge pd9<|ge x10<|ge x11<|some (Sum.inr [.int 0,sd1]):=by kernel_rfl
def CM:=by have h:= @Yy;simp only[aF,gd,am,ak,ao,au,ar,aE,aj]at h;exact h
def PN:List D->uAC:=veil fun p s=>loW (Fw p) s
theorem JG:PN=fun p s=>loW (Fw p) s:=ai _
def Fx:Tb:=Tb.addL Yw 60 3 S60_3.n0 (bQ S60_3 (PN))
theorem Ni:TbOk env (Fx):=aG Yx 60 3 (by kernel_rfl) _ (JG)
def S60:FunS:=⟨[utP 0 0],[(.lst false 106),(.lst false 106),(.mp false 9 106),(.mp false 106 3),(.lst false 106),(.lst false 46),(.cells [ufO 1 46,ufO 2 106,ufS (.map 3),ufS (.map 4),ufI,ufR 9,ufR 9,ufS (.int .u32),ufI,ufO 5 106,ufO 6 106])],[utO 7 3],[(.lst true 3),(.lst false 106),(.lst false 106),(.mp false 9 106),(.mp false 106 3),(.lst false 106),(.lst false 46),(.cells [utO 1 46,utO 2 106,utS (.map 3),utS (.map 4),ufI,ufR 9,ufR 9,ufS (.int .u32),ufI,utO 5 106,utO 6 106])]⟩
def F60:uAC:=aO env Fx 60 12 60 S60
theorem F60_e (pd0:D) (pd1:D) (pd2:D) (pd3:D) (pd4:D) (pd5:D) (pn6:Int) (pd7:D) (pd8:D) (pn9:Int) (pn10:Int):F60 [pd0,pd1,pd2,pd3,pd4,pd5,(D.int pn6),pd7,pd8,(D.int pn9),(D.int pn10)] =
 let y0:=PN [(.int (ae pd4)),pd0,pd1,pd2,pd3,pd4,pd5,(.int pn6),pd7,pd8,(.int pn9),(.int pn10)] [(.int 0),(.list [])]
 let x0:=ab .eql (ae pd4) (ae pd4)
 let x1:=ab .eql (ae pd5) (ae pd5)
 let x2:=ab .eql (ae pd1) (ae pd1)
 let x3:=ab .eql (ae pd0) (ae pd0)
 gd x0<|gd (ab .eql 0 (ae (.list [])))<|gd x1<|gd x0<|gd x2<|gd x3<|gd (ap y0)<|gd (ab .eql (ae (ac y0 1)) (ae (ac y0 1)))<|gd x1<|gd x0<|gd x2<|gd x3<|ge pd0<|ge pd1<|ge pd2<|ge pd3<|ge pd4<|ge pd5<|ge (.int pn6)<|ge pd7<|ge pd8<|ge (.int pn9)<|ge (.int pn10)<|some [ac y0 1]:=by kernel_rfl
def F60_eq:=by have h:= @F60_e;simp only[aF,gd,am,ak,ao,au,ar,aE,aj]at h;exact h
def q60:uAC:=veil (F60)
theorem Yz:q60=F60:=ai _
def tb60:Tb:=Tb.addF Fx 60 S60 (q60)
theorem ok_tb60:TbOk env (tb60):=aJ Ni 60 (by kernel_rfl) _ (Yz)
def S49_n:FunS:=⟨[utP 0 0],[(.mp false 9 106),(.mp false 106 3),(.cells [ufN,ufN,ufS (.map 1),ufS (.map 2),utI,ufR 9,ufR 9,ufS (.int .u32),ufI,ufN,ufN])],[utI],[(.mp false 9 106),(.mp false 106 3),(.cells [utN,utN,utS (.map 1),utS (.map 2),utI,ufR 9,ufR 9,ufS (.int .u32),ufI,utN,utN])]⟩
def YA:uAC:=aO env tb60 60 12 49 S49_n
theorem F49_n_e (pd0:D) (pd1:D) (pd2:D) (pd3:D) (pn4:Int) (pn5:Int) (sn0:Int):YA [pd0,pd1,pd2,pd3,(D.int pn4),(D.int pn5),(D.int sn0)] =
 let x0:=D.int (aM .add .i64 sn0 1)
 ge pd0<|ge pd1<|ge pd2<|ge pd3<|ge (.int pn4)<|ge (.int pn5)<|some [x0,x0]:=by kernel_rfl
def YB:=by have h:= @F49_n_e;simp only[aF,gd,am,ak,ao,au,ar,aE,aj]at h;exact h
def PO:uAC:=veil (YA)
theorem JH:PO=YA:=ai _
def Nj:Tb:=Tb.addF tb60 49 S49_n (PO)
theorem Sw:TbOk env (Nj):=aJ ok_tb60 49 (by kernel_rfl) _ (JH)
def S56_z_1:LoopS:=⟨7,ufP 0 0::uAA 5 (ufR 187::ufI::utI::uAA 7 []),[(.lst true 106),(.lst true 106),(.lst true 106),(.lst true 46), .skip, .skip,(.mp true 9 106),(.mp true 106 3), .skip, .skip,(.cells [ufO 7 46,ufO 8 106,ufS (.map 3),ufS (.map 4),utI,ufR 9,ufR 9,ufS (.int .u32),ufI,ufO 9 106,ufO 10 106])],[⟨0,0,uAB 6 (ufR 187::ufI::uAB 8 []),[(.lst true 106),(.lst true 106),(.lst true 106),(.lst true 46), .skip, .skip,(.mp true 9 106),(.mp true 106 3), .skip, .skip,(.cells [utO 7 46,utO 8 106,utS (.map 3),utS (.map 4),utI,ufR 9,ufR 9,ufS (.int .u32),ufI,utO 9 106,utO 10 106])]⟩]⟩
def qc (p s:List D):Option (Sum (List D) (List D)):=aP env Nj 60 12 56 (bb 56 1) S56_z_1 p s
theorem Nk (pd0:D) (pn1:Int) (pd2:D) (pd3:D) (pn4:Int) (pn5:Int) (sn0:Int) (sd1:D) (sd2:D) (sd3:D) (sd4:D) (sd5:D) (sd6:D) (sn7:Int):qc [pd0,(D.int pn1),pd2,pd3,(D.int pn4),(D.int pn5)] [(D.int sn0),sd1,sd2,sd3,sd4,sd5,sd6,(D.int sn7)] =
 let y0:=Nh [pd2,pd3,(.int pn4),(.int pn5),(ay pd0 sn0),sd1,sd2,sd5,sd6,sd3,sd4,(.int sn7)]
 let x0:=ab .eql (ae sd4) (ae sd4)
 let x1:=ab .eql (ae sd3) (ae sd3)
 let x2:=ab .eql (ae sd2) (ae sd2)
 let x3:=ab .eql (ae sd1) (ae sd1)
 bif ab .lss sn0 pn1 then gd (aS pd0 sn0)<|gd x0<|gd x1<|gd x2<|gd x3<|gd (ap y0)<|gd (ab .eql (ae (ac y0 3)) (ae (ac y0 3)))<|gd (ab .eql (ae (ac y0 2)) (ae (ac y0 2)))<|gd (ab .eql (ae (ac y0 1)) (ae (ac y0 1)))<|gd (ab .eql (ae (ac y0 0)) (ae (ac y0 0)))<|ge pd0<|ge (.int pn1)<|ge pd2<|ge pd3<|ge (.int pn4)<|ge (.int pn5)<|some (Sum.inl [.int (aM .add .i64 sn0 1),ac y0 0,ac y0 1,ac y0 2,ac y0 3,ac y0 4,ac y0 5,.int (ah (ac y0 6))])else gd x0<|gd x1<|gd x2<|gd x3<|ge pd0<|ge (.int pn1)<|ge pd2<|ge pd3<|ge (.int pn4)<|ge (.int pn5)<|some (Sum.inr [.int 0,sd1,sd2,sd3,sd4,sd5,sd6,.int sn7]):=by kernel_rfl
def tJ:=by have h:= @Nk;simp only[aF,gd,am,ak,ao,au,ar,aE,aj]at h;exact h
def Fy:List D->uAC:=veil fun p s=>loW (qc p) s
theorem Ad:Fy=fun p s=>loW (qc p) s:=ai _
def r6:Tb:=Tb.addL Nj 56 1 S56_z_1.n0 (bQ S56_z_1 (Fy))
theorem Fz:TbOk env (r6):=aG Sw 56 1 (by kernel_rfl) _ (Ad)
def S56_z:FunS:=⟨[utP 0 0,utR 187],[(.lst true 106),(.lst true 106),(.mp true 9 106),(.mp true 106 3),(.lst true 106),(.lst true 46),(.cells [ufO 1 46,ufO 2 106,ufS (.map 3),ufS (.map 4),utI,ufR 9,ufR 9,ufS (.int .u32),ufI,ufO 5 106,ufO 6 106])],[utS (.tup [])],[(.lst true 106),(.lst true 106),(.lst true 106),(.lst true 46), .skip, .skip,(.mp true 9 106),(.mp true 106 3), .skip, .skip,(.cells [utO 7 46,utO 8 106,utS (.map 3),utS (.map 4),utI,ufR 9,ufR 9,ufS (.int .u32),ufI,utO 9 106,utO 10 106])]⟩
def YC:uAC:=aO env r6 60 12 56 S56_z
theorem F56_z_e (pd0:D) (pd1:D) (pn2:Int) (pn3:Int) (sd0:D) (sd1:D) (sd2:D) (sd3:D) (sd4:D) (sd5:D) (sd6:D) (sn7:Int):YC [pd0,pd1,(D.int pn2),(D.int pn3),sd0,sd1,sd2,sd3,sd4,sd5,sd6,(D.int sn7)] =
 let y0:=Fy [sd0,(.int (ae sd0)),pd0,pd1,(.int pn2),(.int pn3)] [(.int 0),sd1,sd2,sd5,sd6,sd3,sd4,(.int sn7)]
 gd (ab .eql (ae sd6) (ae sd6))<|gd (ab .eql (ae sd5) (ae sd5))<|gd (ab .eql (ae sd2) (ae sd2))<|gd (ab .eql (ae sd1) (ae sd1))<|gd (ap y0)<|gd (ab .eql (ae (ac y0 4)) (ae (ac y0 4)))<|gd (ab .eql (ae (ac y0 3)) (ae (ac y0 3)))<|gd (ab .eql (ae (ac y0 2)) (ae (ac y0 2)))<|gd (ab .eql (ae (ac y0 1)) (ae (ac y0 1)))<|ge pd0<|ge pd1<|ge (.int pn2)<|ge (.int pn3)<|some [ac y0 1,ac y0 2,ac y0 3,ac y0 4,ac y0 5,ac y0 6,.int (ah (ac y0 7))]:=by kernel_rfl
def YD:=by have h:= @F56_z_e;simp only[aF,gd,am,ak,ao,au,ar,aE,aj]at h;exact h
def JI:uAC:=veil (YC)
theorem JJ:JI=YC:=ai _
def Nl:Tb:=Tb.addF r6 56 S56_z (JI)
theorem Sx:TbOk env (Nl):=aJ Fz 56 (by kernel_rfl) _ (JJ)
def S17_6:LoopS:=⟨0,uF::uF::ufR 9::ufS (.int .u32)::ufP 0 0::uF::uF::uF::ufN::ufN::ufZ::uF::ufO 1 9::uAA 16 (ufR 65::ufI::utI::uAA 78 []),[(.lst true 9),(.dat false 38)],[⟨0,0,uT::uT::ufR 9::ufS (.int .u32)::utP 0 0::uT::uT::uT::utN::utN::utZ::uT::utR 9::uAB 16 (ufR 65::ufI::uAB 79 []),[(.lst true 9),(.dat false 38)]⟩]⟩
def FA (p s:List D):Option (Sum (List D) (List D)):=aP env Nl 60 12 17 (bb 17 6) S17_6 p s
theorem YE (pd0:D) (pn1:Int) (pd2:D) (pn3:Int) (pd4:D) (sn0:Int) (sd1:D):FA [pd0,(D.int pn1),pd2,(D.int pn3),pd4] [(D.int sn0),sd1] =
 let y0:=ae (bG sd1 (.list [(.str (aB (aa (ay pd2 sn0) 0)))]))
 let x0:=ab .eql (ae sd1) (ae sd1)
 bif ab .lss sn0 pn3 then gd (aS pd2 sn0)<|gd x0<|gd (cA y0 16)<|gd (ab .eql y0 y0)<|ge pd0<|ge (.int pn1)<|ge pd2<|ge (.int pn3)<|ge pd4<|some (Sum.inl [.int (aM .add .i64 sn0 1),bG sd1 (.list [.str (aB (aa (ay pd2 sn0) 0))])])else gd x0<|ge pd0<|ge (.int pn1)<|ge pd2<|ge (.int pn3)<|ge pd4<|some (Sum.inr [.int 0,sd1,.list []]):=by kernel_rfl
def CN:=by have h:= @YE;simp only[aF,gd,am,ak,ao,au,ar,aE,aj]at h;exact h
def PP:List D->uAC:=veil fun p s=>loW (FA p) s
theorem JK:PP=fun p s=>loW (FA p) s:=ai _
def FB:Tb:=Tb.addL Nl 17 6 S17_6.n0 (bQ S17_6 (PP))
theorem Nm:TbOk env (FB):=aG Sx 17 6 (by kernel_rfl) _ (JK)
def S17_13:LoopS:=⟨0,uF::uF::uF::uF::ufP 0 0::uF::uF::uF::ufN::ufN::ufZ::uF::uF::uF::uF::ufP 1 0::uAA 35 (ufR 65::ufI::utI::uAA 56 []),[(.lst false 106),(.lst false 106),(.mp false 9 106),(.mp false 106 3),(.lst true 106),(.lst true 46),(.cells [ufO 2 46,ufO 3 106,ufS (.map 4),ufS (.map 5),ufI,ufR 9,ufR 9,ufS (.int .u32),ufI,ufO 6 106,ufO 7 106]),(.dat false 38)],[⟨0,2,uT::uT::uT::uT::utP 0 0::uT::uT::uT::utN::utN::utZ::uT::uT::uT::uT::utP 1 0::uAB 35 (ufR 65::ufI::uAB 57 []),[(.lst false 106),(.lst false 106),(.mp false 9 106),(.mp false 106 3),(.lst true 106),(.lst true 46),(.cells [utO 2 46,utO 3 106,utS (.map 4),utS (.map 5),ufI,ufR 9,ufR 9,ufS (.int .u32),ufI,utO 6 106,utO 7 106]),(.dat false 38)]⟩]⟩
def vf (p s:List D):Option (Sum (List D) (List D)):=aP env FB 60 12 17 (bb 17 13) S17_13 p s
theorem Sy (pd0:D) (pn1:Int) (pd2:D) (pd3:D) (pd4:D) (pd5:D) (pn6:Int) (pd7:D) (pd8:D) (pn9:Int) (pn10:Int) (pd11:D) (sn0:Int) (sd1:D) (sd2:D):vf [pd0,(D.int pn1),pd2,pd3,pd4,pd5,(D.int pn6),pd7,pd8,(D.int pn9),(D.int pn10),pd11] [(D.int sn0),sd1,sd2] =
 let y0:=q51 [pd2,pd3,pd4,pd5,sd1,sd2,(.int pn6),pd7,pd8,(.int pn9),(.int pn10),(.str (aB (aa (ay pd0 sn0) 0)))]
 let y1:=q50 [pd2,pd3,pd4,pd5,(.int pn6),pd7,pd8,(.int pn9),(.int pn10),(.list [(.agg [(.int (ah (aa (ac y0 0) 0))),(.int (ah (aa (ac y0 0) 1))),(.int (ah (aa (ac y0 0) 2))),(.int (ah (aa (ac y0 0) 3))),(.int (ah (aa (ac y0 0) 4))),(.int (ah (aa (ac y0 0) 5))),(.int (ah (aa (ac y0 0) 6))),(.int (ah (aa (ac y0 0) 7))),(.int (ah (aa (ac y0 0) 8)))]),(.agg [(.int 0),(.int 0),(.int 16),(.int 0),(.int 4),(.int 0),(.int 0),(.int 2),(.int 0)]),(.agg [(.int 0),(.int 0),(.int 3),(.int 0),(.int 0),(.int 0),(.int 0),(.int 0),(.int 0)]),(.agg [(.int 0),(.int 0),(.int 5),(.int 1),(.int 0),(.int 0),(.int 0),(.int 0),(.int 0)]),(.agg [(.int 0),(.int 0),(.int 18),(.int 0),(.int 4),(.int 0),(.int 0),(.int 2),(.int 0)])]),sd1,sd2]
 let x0:=ab .eql (ae sd2) (ae sd2)
 let x1:=ab .eql (ae sd1) (ae sd1)
 let x2:=ab .eql (ae pd3) (ae pd3)
 let x3:=ab .eql (ae pd2) (ae pd2)
 bif ab .lss sn0 pn1 then gd (aS pd0 sn0)<|gd x0<|gd x1<|gd x2<|gd x3<|gd (ap y0)<|gd x0<|gd x1<|gd x2<|gd x3<|gd (ap y1)<|gd (ab .eql (ae (ac y1 1)) (ae (ac y1 1)))<|gd (ab .eql (ae (ac y1 0)) (ae (ac y1 0)))<|gd x2<|gd x3<|ge pd0<|ge (.int pn1)<|ge pd2<|ge pd3<|ge pd4<|ge pd5<|ge (.int pn6)<|ge pd7<|ge pd8<|ge (.int pn9)<|ge (.int pn10)<|ge pd11<|some (Sum.inl [.int (aM .add .i64 sn0 1),ac y1 0,ac y1 1])else gd x0<|gd x1<|gd x2<|gd x3<|ge pd0<|ge (.int pn1)<|ge pd2<|ge pd3<|ge pd4<|ge pd5<|ge (.int pn6)<|ge pd7<|ge pd8<|ge (.int pn9)<|ge (.int pn10)<|ge pd11<|some (Sum.inr [.int 0,sd1,sd2]):=by kernel_rfl
def Ae:=by have h:= @Sy;simp only[aF,gd,am,ak,ao,au,ar,aE,aj]at h;exact h
def FC:List D->uAC:=veil fun p s=>loW (vf p) s
theorem CO:FC=fun p s=>loW (vf p) s:=ai _
def Af:Tb:=Tb.addL FB 17 13 S17_13.n0 (bQ S17_13 (FC))
theorem JL:TbOk env (Af):=aG Nm 17 13 (by kernel_rfl) _ (CO)
def S17_20:LoopS:=⟨0,uF::uF::uF::uF::ufP 0 0::uF::uF::uF::ufN::ufN::ufZ::uF::uF::uF::uF::ufP 1 0::uF::uF::utI::uAA 91 [],[(.lst false 106),(.lst false 106),(.mp false 9 106),(.mp false 106 3),(.lst true 106),(.lst true 46),(.cells [ufO 2 46,ufO 3 106,ufS (.map 4),ufS (.map 5),ufI,ufR 9,ufR 9,ufS (.int .u32),ufI,ufO 6 106,ufO 7 106]),(.dat false 38)],[⟨0,4,uAB 8 (utN::utN::utZ::uT::uT::uT::uT::utP 1 0::uAB 94 []),[(.lst false 106),(.lst false 106),(.mp false 9 106),(.mp false 106 3),(.lst true 106),(.lst true 46),(.cells [utO 2 46,utO 3 106,utS (.map 4),utS (.map 5),ufI,ufR 9,ufR 9,ufS (.int .u32),ufI,utO 6 106,utO 7 106]),(.dat false 38)]⟩]⟩
def vg (p s:List D):Option (Sum (List D) (List D)):=aP env Af 60 12 17 (bb 17 20) S17_20 p s
theorem Sz (pd0:D) (pd1:D) (pd2:D) (pd3:D) (pn4:Int) (pd5:D) (pd6:D) (pn7:Int) (pn8:Int) (pd9:D) (sn0:Int) (sd1:D) (sd2:D):vg [pd0,pd1,pd2,pd3,(D.int pn4),pd5,pd6,(D.int pn7),(D.int pn8),pd9] [(D.int sn0),sd1,sd2] =
 let y0:=q50 [pd0,pd1,pd2,pd3,(.int pn4),pd5,pd6,(.int pn7),(.int pn8),(.list [(.agg [(.int 0),(.int 0),(.int 4),(.int 0),(.int 0),(.int 0),(.int 0),(.int 0),(.int 0)])]),sd1,sd2]
 let y1:=q59 [pd0,pd1,pd2,pd3,(.int pn4),pd5,pd6,(.int pn7),(.int pn8),(.str (aB (aa (ay (aa pd9 1) sn0) 0))),(ac y0 0),(ac y0 1)]
 let x0:=ab .eql (ae sd2) (ae sd2)
 let x1:=ab .eql (ae sd1) (ae sd1)
 let x2:=ab .eql (ae pd1) (ae pd1)
 let x3:=ab .eql (ae pd0) (ae pd0)
 let x4:=ae (ac y0 1)
 let x5:=ae (ac y0 0)
 bif ab .geq sn0 0 then gd x0<|gd x1<|gd x2<|gd x3<|gd (ap y0)<|gd (aS (aa pd9 1) sn0)<|gd (ab .eql x4 x4)<|gd (ab .eql x5 x5)<|gd x2<|gd x3<|gd (ap y1)<|gd (ab .eql (ae (ac y1 1)) (ae (ac y1 1)))<|gd (ab .eql (ae (ac y1 0)) (ae (ac y1 0)))<|gd x2<|gd x3<|ge pd0<|ge pd1<|ge pd2<|ge pd3<|ge (.int pn4)<|ge pd5<|ge pd6<|ge (.int pn7)<|ge (.int pn8)<|ge pd9<|some (Sum.inl [.int (aM .sub .i64 sn0 1),ac y1 0,ac y1 1])else gd x0<|gd x1<|gd x2<|gd x3<|ge pd0<|ge pd1<|ge pd2<|ge pd3<|ge (.int pn4)<|ge pd5<|ge pd6<|ge (.int pn7)<|ge (.int pn8)<|ge pd9<|some (Sum.inr [.int 0,sd1,sd2]):=by kernel_rfl
def Ah:=by have h:= @Sz;simp only[aF,gd,am,ak,ao,au,ar,aE,aj]at h;exact h
def FD:List D->uAC:=veil fun p s=>loW (vg p) s
theorem CP:FD=fun p s=>loW (vg p) s:=ai _
def Ai:Tb:=Tb.addL Af 17 20 S17_20.n0 (bQ S17_20 (FD))
theorem JM:TbOk env (Ai):=aG JL 17 20 (by kernel_rfl) _ (CP)
def S17:FunS:=⟨[utD 38,utR 9,utR 9,utS (.int .u32)],[],[utS (.tup [(.rows 46),(.rows 3),(.int .i64)])],[]⟩
def F17:uAC:=aO env Ai 60 12 17 S17
theorem F17_e (sd0:D) (sd1:D) (sd2:D) (sn3:Int):F17 [sd0,sd1,sd2,(D.int sn3)] =
 let y0:=ah (ac (q47 [sd0,sd1,sd2]) 0)
 let y1:=ab .eql (ae (ac (q48 [sd1]) 0)) (ae (ac (q48 [sd1]) 0))
 let y2:=PP [sd2,(.int sn3),(aa sd0 1),(.int (ae (aa sd0 1))),sd0] [(.int 0),(ac (q48 [sd1]) 0)]
 let y3:=PO [(.list []),(.list []),(ac y2 1),sd2,(.int sn3),(.int 0),(.int 0)]
 let y4:=FC [(aa sd0 1),(.int (ae (aa sd0 1))),(.list []),(.list []),(.list []),(.list []),(.int (ah (ac y3 1))),(ac y2 1),sd2,(.int sn3),(.int (ah (ac y3 0))),sd0] [(.int 0),(.list []),(.list [])]
 let y5:=JI [(ac y2 1),sd2,(.int sn3),(.int (ah (ac y3 0))),(aa sd0 2),(.list []),(.list []),(.list []),(.list []),(ac y4 1),(ac y4 2),(.int (ah (ac y3 1)))]
 let y6:=q57 [(ac y5 0),(ac y5 1),(ac y5 4),(ac y5 2),(ac y5 3),(.int (ah (ac y5 6))),(ac y2 1),sd2,(.int sn3),(.int (ah (ac y3 0))),(.int (ah (ac y3 0))),(ac y5 5)]
 let y7:=FD [(ac y5 0),(ac y5 1),(ac y5 4),(ac y6 0),(.int (ah (ac y5 6))),(ac y2 1),sd2,(.int sn3),(.int (ah (ac y3 0))),sd0] [(.int (aM .sub .i64 (ae (aa sd0 1)) 1)),(ac y5 2),(ac y5 3)]
 let y8:=q50 [(ac y5 0),(ac y5 1),(ac y5 4),(ac y6 0),(.int (ah (ac y5 6))),(ac y2 1),sd2,(.int sn3),(.int (ah (ac y3 0))),(.list [(.agg [(.int 0),(.int 0),(.int 2),(.int 0),(.int 0),(.int 0),(.int 0),(.int 0),(.int 0)])]),(ac y7 1),(ac y7 2)]
 let y9:=q60 [(ac y5 0),(ac y5 1),(ac y5 4),(ac y6 0),(ac y8 0),(ac y8 1),(.int (ah (ac y5 6))),(ac y2 1),sd2,(.int sn3),(.int (ah (ac y3 0)))]
 let y10:=ci (ab .eql (ae (ac y5 1)) (ae (ac y5 1))) (ab .eql (ae (ac y5 0)) (ae (ac y5 0)))
 let y11:=ci (ab .eql (ah (ac y3 0)) (ah (ac y3 0))) y10
 let y12:=ci (fV (ac y2 1) (ac y2 1)) (ci (fV sd2 sd2) (ci (ab .eql sn3 sn3) y11))
 let y13:=ci (ab .eql (ah (ac y5 6)) (ah (ac y5 6))) y12
 let y14:=ci (ab .eql (ae (ac y8 0)) (ae (ac y8 0))) y13
 let y15:=ci (ab .eql (ae (ac y8 1)) (ae (ac y8 1))) y14
 let x0:=D.list []
 let x1:=ae x0
 let x2:=ab .eql 0 x1
 let x3:=ae (ac y4 2)
 let x4:=ae (ac y4 1)
 let x5:=ab .eql x1 x1
 let x6:=ae (ac y5 3)
 let x7:=ab .eql x6 x6
 let x8:=ae (ac y5 2)
 let x9:=ab .eql x8 x8
 let x10:=ae (ac y5 1)
 let x11:=ab .eql x10 x10
 let x12:=ae (ac y5 0)
 let x13:=ab .eql x12 x12
 let x14:=ae (ac y7 2)
 let x15:=ae (ac y7 1)
 let x16:=ab .eql (ae (ac y8 1)) (ae (ac y8 1))
 let x17:=ae (ac y8 0)
 gd (ap (q47 [sd0,sd1,sd2]))<|bif ab .neq y0 0 then some [x0,x0,.int y0]else gd (ap (q48 [sd1]))<|gd y1<|gd (ap y2)<|gd (ap y3)<|gd x2<|gd x2<|gd x2<|gd x2<|gd (ap y4)<|gd (ab .eql x3 x3)<|gd (ab .eql x4 x4)<|gd x5<|gd x5<|gd (ap y5)<|gd x7<|gd x9<|gd x11<|gd x13<|gd (ap y6)<|gd x7<|gd x9<|gd x11<|gd x13<|gd (ap y7)<|gd (ab .eql x14 x14)<|gd (ab .eql x15 x15)<|gd x11<|gd x13<|gd (ap y8)<|gd x16<|gd (ab .eql x17 x17)<|gd x11<|gd x13<|gd (ap y9)<|gd y15<|gd x16<|gd (ab .eql (ae (ac y9 0)) (ae (ac y9 0)))<|some [ac y8 1,ac y9 0,.int 0]:=by kernel_rfl
def YF:=by have h:= @F17_e;simp only[aF,gd,am,ak,ao,au,ar,aE,aj]at h;exact h
def q17:uAC:=veil (F17)
theorem Nn:q17=F17:=ai _
def tb17:Tb:=Tb.addF Ai 17 S17 (q17)
theorem PQ:TbOk env (tb17):=aJ JM 17 (by kernel_rfl) _ (Nn)
def JN:FunS:=⟨[utR 187,utI,utI],[],[utI],[]⟩
def No (Q:uAC):Tb:=Tb.addF tb17 109 JN Q
theorem SA (Q:uAC) (hQ:aH env.P 109 JN Q):TbOk env (No Q):=TbOk.addF PQ (by kernel_rfl) hQ
def S109_12:LoopS:=⟨0,ufR 187::ufI::uF::uF::uF::uF::ufZ::utI::ufI::ufP 0 0::utI::uAA 90 [],[(.dat false 187)],[⟨0,2,ufR 187::ufI::uT::uT::uT::uT::utZ::utI::ufI::utP 0 0::uAB 91 [],[(.dat false 187)]⟩]⟩
def qd (Q:uAC) (p s:List D):Option (Sum (List D) (List D)):=aP env (No Q) 60 12 109 (bb 109 12) S109_12 p s
theorem Np (Q:uAC) (pd0:D) (pn1:Int) (pn2:Int) (pd3:D) (sn0:Int) (sn1:Int):qd Q [pd0,(D.int pn1),(D.int pn2),pd3] [(D.int sn0),(D.int sn1)] =
 let y0:=aw (ab .lss sn1 (ae (aa pd3 3))) (ab .geq sn0 0) false
 let y1:=q38 [(ay (aa pd3 3) sn1),(.int 70),(.int sn0)]
 bif y0 then gd (aS (aa pd3 3) sn1)<|gd (ap y1)<|ge pd0<|ge (.int pn1)<|ge (.int pn2)<|ge pd3<|some (Sum.inl [.int (ah (ac y1 0)),.int (aM .add .i64 sn1 1)])else ge pd0<|ge (.int pn1)<|ge (.int pn2)<|ge pd3<|some (Sum.inr [.int 0,.int sn0]):=by kernel_rfl
def JO:=by have h:= @Np;simp only[aF,gd,am,ak,ao,au,ar,aE,aj]at h;exact h
def FE (Q:uAC):List D->uAC:=veil fun p s=>loW (qd Q p) s
theorem Aj (Q:uAC):FE Q=fun p s=>loW (qd Q p) s:=ai _
def r7 (Q:uAC):Tb:=Tb.addL (No Q) 109 12 S109_12.n0 (bQ S109_12 (FE Q))
theorem FF (Q:uAC) (hQ:aH env.P 109 JN Q):TbOk env (r7 Q):=aG (SA Q hQ) 109 12 (by kernel_rfl) _ (Aj Q)
def S109_20:LoopS:=⟨0,ufR 187::ufI::uF::uF::uF::uF::ufZ::utI::ufI::ufP 0 0::uF::utI::uAA 89 [],[(.dat false 187)],[⟨0,4,ufR 187::ufI::uT::uT::uT::uT::utZ::utI::ufI::uAB 92 [],[(.dat false 187)]⟩]⟩
def qe (Q:uAC) (p s:List D):Option (Sum (List D) (List D)):=aP env (r7 Q) 60 12 109 (bb 109 20) S109_20 p s
theorem Nq (Q:uAC) (pd0:D) (pn1:Int) (pn2:Int) (pd3:D) (sn0:Int) (sn1:Int):qe Q [pd0,(D.int pn1),(D.int pn2),pd3] [(D.int sn0),(D.int sn1)] =
 let y0:=aw (ab .lss sn1 (ae (aa pd3 6))) (ab .geq sn0 0) false
 let y1:=ap (Q [(ay (aa pd3 6) sn1),(.int (aM .sub .i64 pn1 1)),(.int sn0)])
 let y2:=ac (Q [(ay (aa pd3 6) sn1),(.int (aM .sub .i64 pn1 1)),(.int sn0)]) 0
 bif y0 then gd (aS (aa pd3 6) sn1)<|gd y1<|ge pd0<|ge (.int pn1)<|ge (.int pn2)<|ge pd3<|some (Sum.inl [.int (ah y2),.int (aM .add .i64 sn1 1)])else ge pd0<|ge (.int pn1)<|ge (.int pn2)<|ge pd3<|some (Sum.inr [.int 0,.int sn0]):=by kernel_rfl
def JP:=by have h:= @Nq;simp only[aF,gd,am,ak,ao,au,ar,aE,aj]at h;exact h
def FG (Q:uAC):List D->uAC:=veil fun p s=>loW (qe Q p) s
theorem Ak (Q:uAC):FG Q=fun p s=>loW (qe Q p) s:=ai _
def r8 (Q:uAC):Tb:=Tb.addL (r7 Q) 109 20 S109_20.n0 (bQ S109_20 (FG Q))
theorem FH (Q:uAC) (hQ:aH env.P 109 JN Q):TbOk env (r8 Q):=aG (FF Q hQ) 109 20 (by kernel_rfl) _ (Ak Q)
def S109_5:LoopS:=⟨0,ufR 187::ufI::uF::uF::uF::uF::ufZ::utI::utI::uAA 92 [],[],[⟨0,0,ufR 187::ufI::uT::uT::uT::uT::utZ::utI::uAB 93 [],[]⟩,⟨1,0,ufR 187::ufI::uT::uT::uT::uT::utS (.lit (.int .i64 (-1)))::uAB 94 [],[]⟩]⟩
def qf (Q:uAC) (p s:List D):Option (Sum (List D) (List D)):=aP env (r8 Q) 60 12 109 (bb 109 5) S109_5 p s
theorem SB (Q:uAC) (pd0:D) (pn1:Int) (sn0:Int) (sn1:Int):qf Q [pd0,(D.int pn1)] [(D.int sn0),(D.int sn1)] =
 let y0:=aw (ab .lss sn1 (ae pd0)) (ab .geq sn0 0) false
 let y1:=aw (ab .gtr (ae (aa (ay pd0 sn1) 3)) 4) true (ab .gtr (ae (aa (ay pd0 sn1) 6)) 70)
 let y2:=FE Q [pd0,(.int pn1),(.int sn1),(ay pd0 sn1)] [(.int (aM .sub .i64 sn0 1)),(.int 0)]
 let y3:=ap (Q [(aa (ay pd0 sn1) 4),(.int (aM .sub .i64 pn1 1)),(.int (ah (ac y2 1)))])
 let y4:=ac (Q [(aa (ay pd0 sn1) 4),(.int (aM .sub .i64 pn1 1)),(.int (ah (ac y2 1)))]) 0
 let y5:=fC (ab .geq (ah (ac y2 1)) 0) (ah y4) (ah (ac y2 1))
 let y6:=ap (Q [(aa (ay pd0 sn1) 5),(.int (aM .sub .i64 pn1 1)),(.int y5)])
 let y7:=ac (Q [(aa (ay pd0 sn1) 5),(.int (aM .sub .i64 pn1 1)),(.int y5)]) 0
 let y8:=FG Q [pd0,(.int pn1),(.int sn1),(ay pd0 sn1)] [(.int (fC (ab .geq y5 0) (ah y7) y5)),(.int 0)]
 let x0:=D.int pn1
 bif y0 then gd (aS pd0 sn1)<|bif y1 then ge pd0<|ge x0<|some (Sum.inr [.int 1])else gd (ap y2)<|gd (aw (ab .geq (ah (ac y2 1)) 0) y3 true)<|gd (aw (ab .geq y5 0) y6 true)<|gd (ap y8)<|ge pd0<|ge x0<|some (Sum.inl [.int (ah (ac y8 1)),.int (aM .add .i64 sn1 1)])else ge pd0<|ge x0<|some (Sum.inr [.int 0,.int sn0]):=by kernel_rfl
def ox:=by have h:= @SB;simp only[aF,gd,am,ak,ao,au,ar,aE,aj]at h;exact h
def Nr (Q:uAC):List D->uAC:=veil fun p s=>loW (qf Q p) s
theorem CQ (Q:uAC):Nr Q=fun p s=>loW (qf Q p) s:=ai _
def Al (Q:uAC):Tb:=Tb.addL (r8 Q) 109 5 S109_5.n0 (bQ S109_5 (Nr Q))
theorem JQ (Q:uAC) (hQ:aH env.P 109 JN Q):TbOk env (Al Q):=aG (FH Q hQ) 109 5 (by kernel_rfl) _ (CQ Q)
def YG (Q:uAC):uAC:=aO env (Al Q) 60 12 109 JN
theorem Fb109_e (Q:uAC) (sd0:D) (sn1:Int) (sn2:Int):YG Q [sd0,(D.int sn1),(D.int sn2)] =
 let y0:=aw (ab .gtr (ae sd0) 20) true (ab .lss sn1 1)
 let y1:=Nr Q [sd0,(.int sn1)] [(.int sn2),(.int 0)]
 let x0:Option (List D):=some [.int (-1)]
 bif y0 then x0 else gd (ap y1)<|bif ab .eql (ah (ac y1 0)) 0 then some [.int (ah (ac y1 1))]else x0:=by kernel_rfl
def YH:=by have h:= @Fb109_e;simp only[aF,gd,am,ak,ao,au,ar,aE,aj]at h;exact h
def qg:Nat->uAC:=levels YG
theorem F109_s (n:Nat):qg (n+1)=YG (qg n):=rfl
def q109:uAC:=veil fun ds=>qg (aY ds) ds
theorem PR:q109=fun ds=>qg (aY ds) ds:=ai _
theorem YI:aH env.P 109 JN q109:=gM (fun q=>Al q) (fun q hq=>JQ q hq) PR
def YJ:Tb:=Tb.addF tb17 109 JN q109
theorem JR:TbOk env YJ:=TbOk.addF PQ (by kernel_rfl) YI
def Ns:FunS:=⟨[utD 63,utI,utI],[],[utI],[]⟩
def Nt (Q:uAC):Tb:=Tb.addF YJ 167 Ns Q
theorem SC (Q:uAC) (hQ:aH env.P 167 Ns Q):TbOk env (Nt Q):=TbOk.addF JR (by kernel_rfl) hQ
def S167_5:LoopS:=⟨0,uF::ufI::uF::ufP 0 0::uF::uF::ufZ::utI::utI::uAA 63 [],[(.dat false 63)],[⟨0,0,uT::ufI::uT::utP 0 0::uT::uT::utZ::utI::uAB 64 [],[(.dat false 63)]⟩]⟩
def vh (Q:uAC) (p s:List D):Option (Sum (List D) (List D)):=aP env (Nt Q) 60 12 167 (bb 167 5) S167_5 p s
theorem SD (Q:uAC) (pn0:Int) (pd1:D) (sn0:Int) (sn1:Int):vh Q [(D.int pn0),pd1] [(D.int sn0),(D.int sn1)] =
 let y0:=aw (ab .lss sn1 (ae (aa pd1 3))) (ab .geq sn0 0) false
 let y1:=ap (Q [(ay (aa pd1 3) sn1),(.int (aM .sub .i64 pn0 1)),(.int sn0)])
 let y2:=ac (Q [(ay (aa pd1 3) sn1),(.int (aM .sub .i64 pn0 1)),(.int sn0)]) 0
 bif y0 then gd (aS (aa pd1 3) sn1)<|gd y1<|ge (.int pn0)<|ge pd1<|some (Sum.inl [.int (ah y2),.int (aM .add .i64 sn1 1)])else ge (.int pn0)<|ge pd1<|some (Sum.inr [.int 0,.int sn0]):=by kernel_rfl
def Nu:=by have h:= @SD;simp only[aF,gd,am,ak,ao,au,ar,aE,aj]at h;exact h
def Nv (Q:uAC):List D->uAC:=veil fun p s=>loW (vh Q p) s
theorem CR (Q:uAC):Nv Q=fun p s=>loW (vh Q p) s:=ai _
def Am (Q:uAC):Tb:=Tb.addL (Nt Q) 167 5 S167_5.n0 (bQ S167_5 (Nv Q))
theorem JS (Q:uAC) (hQ:aH env.P 167 Ns Q):TbOk env (Am Q):=aG (SC Q hQ) 167 5 (by kernel_rfl) _ (CR Q)
def S167_9:LoopS:=⟨0,uF::ufI::uF::ufP 0 0::uF::uF::ufZ::utI::uF::utI::uAA 62 [],[(.dat false 63)],[⟨0,2,uT::ufI::uT::uT::uT::uT::utZ::utI::uAB 64 [],[(.dat false 63)]⟩]⟩
def vi (Q:uAC) (p s:List D):Option (Sum (List D) (List D)):=aP env (Am Q) 60 12 167 (bb 167 9) S167_9 p s
theorem SE (Q:uAC) (pn0:Int) (pd1:D) (sn0:Int) (sn1:Int):vi Q [(D.int pn0),pd1] [(D.int sn0),(D.int sn1)] =
 let y0:=aw (ab .lss sn1 (ae (aa pd1 4))) (ab .geq sn0 0) false
 let y1:=ap (Q [(.agg [(.int (ah (aa (aa (ay (aa pd1 4) sn1) 1) 0))),(.int (ah (aa (aa (ay (aa pd1 4) sn1) 1) 1))),(.int (ah (aa (aa (ay (aa pd1 4) sn1) 1) 2))),(aa (aa (ay (aa pd1 4) sn1) 1) 3),(aa (aa (ay (aa pd1 4) sn1) 1) 4)]),(.int (aM .sub .i64 pn0 1)),(.int sn0)])
 let y2:=ac (Q [(.agg [(.int (ah (aa (aa (ay (aa pd1 4) sn1) 1) 0))),(.int (ah (aa (aa (ay (aa pd1 4) sn1) 1) 1))),(.int (ah (aa (aa (ay (aa pd1 4) sn1) 1) 2))),(aa (aa (ay (aa pd1 4) sn1) 1) 3),(aa (aa (ay (aa pd1 4) sn1) 1) 4)]),(.int (aM .sub .i64 pn0 1)),(.int sn0)]) 0
 bif y0 then gd (aS (aa pd1 4) sn1)<|gd y1<|ge (.int pn0)<|ge pd1<|some (Sum.inl [.int (ah y2),.int (aM .add .i64 sn1 1)])else ge (.int pn0)<|ge pd1<|some (Sum.inr [.int 0,.int sn0]):=by kernel_rfl
def Nw:=by have h:= @SE;simp only[aF,gd,am,ak,ao,au,ar,aE,aj]at h;exact h
def Nx (Q:uAC):List D->uAC:=veil fun p s=>loW (vi Q p) s
theorem CS (Q:uAC):Nx Q=fun p s=>loW (vi Q p) s:=ai _
def An (Q:uAC):Tb:=Tb.addL (Am Q) 167 9 S167_9.n0 (bQ S167_9 (Nx Q))
theorem JT (Q:uAC) (hQ:aH env.P 167 Ns Q):TbOk env (An Q):=aG (JS Q hQ) 167 9 (by kernel_rfl) _ (CS Q)
def YK (Q:uAC):uAC:=aO env (An Q) 60 12 167 Ns
theorem Fb167_e (Q:uAC) (sd0:D) (sn1:Int) (sn2:Int):YK Q [sd0,(D.int sn1),(D.int sn2)] =
 let y0:=aw (ab .lss sn1 1) true (ab .lss sn2 1)
 let y1:=aw (aw y0 true (ab .gtr (ae (aa sd0 3)) 12)) true (ab .gtr (ae (aa sd0 4)) 70)
 let y2:=Nv Q [(.int sn1),sd0] [(.int (aM .sub .i64 sn2 1)),(.int 0)]
 let y3:=Nx Q [(.int sn1),sd0] [(.int (ah (ac y2 1))),(.int 0)]
 bif y1 then some [.int (-1)]else gd (ap y2)<|gd (ap y3)<|some [.int (ah (ac y3 1))]:=by kernel_rfl
def YL:=by have h:= @Fb167_e;simp only[aF,gd,am,ak,ao,au,ar,aE,aj]at h;exact h
def FI:Nat->uAC:=levels YK
theorem F167_s (n:Nat):FI (n+1)=YK (FI n):=rfl
def q167:uAC:=veil fun ds=>FI (aY ds) ds
theorem PT:q167=fun ds=>FI (aY ds) ds:=ai _
theorem YM:aH env.P 167 Ns q167:=gM (fun q=>An q) (fun q hq=>JT q hq) PT
def YN:Tb:=Tb.addF YJ 167 Ns q167
theorem YO:TbOk env YN:=TbOk.addF JR (by kernel_rfl) YM
def S110:FunS:=⟨[utD 63,utI],[],[utB],[]⟩
def F110:uAC:=aO env YN 60 12 110 S110
theorem F110_e (sd0:D) (sn1:Int):F110 [sd0,(D.int sn1)] =
 let y0:=q167 [sd0,(.int sn1),(.int 3000)]
 gd (ap y0)<|some [.bool (ab .geq (ah (ac y0 0)) 0)]:=by kernel_rfl
def F110_eq:=by have h:= @F110_e;simp only[aF,gd,am,ak,ao,au,ar,aE,aj]at h;exact h
def YP:uAC:=veil (F110)
theorem PU:YP=F110:=ai _
def YQ:Tb:=Tb.addF YN 110 S110 (YP)
theorem YR:TbOk env (YQ):=aJ YO 110 (by kernel_rfl) _ (PU)
def S46_4:LoopS:=⟨0,uF::ufP 0 0::ufS (.lit (.bool false))::utI::uAA 25 [],[(.dat false 38)],[⟨0,0,uT::uT::utS (.lit (.bool false))::uAB 26 [],[(.dat false 38)]⟩,⟨1,0,uT::uT::utS (.lit (.bool false))::uAB 26 [],[(.dat false 38)]⟩]⟩
def Ao (p s:List D):Option (Sum (List D) (List D)):=aP env YQ 60 12 46 (bb 46 4) S46_4 p s
theorem YS (pd0:D) (sn0:Int):Ao [pd0] [(D.int sn0)] =
 let y0:=YP [(.agg [(.int (ah (aa (aa (ay (aa pd0 1) sn0) 1) 0))),(.int (ah (aa (aa (ay (aa pd0 1) sn0) 1) 1))),(.int (ah (aa (aa (ay (aa pd0 1) sn0) 1) 2))),(aa (aa (ay (aa pd0 1) sn0) 1) 3),(aa (aa (ay (aa pd0 1) sn0) 1) 4)]),(.int 70)]
 bif ab .lss sn0 (ae (aa pd0 1))then gd (aS (aa pd0 1) sn0)<|gd (ap y0)<|bif bU (aQ (ac y0 0))then ge pd0<|some (Sum.inr [.int 1])else ge pd0<|some (Sum.inl [.int (aM .add .i64 sn0 1)])else ge pd0<|some (Sum.inr [.int 0]):=by kernel_rfl
def CT:=by have h:= @YS;simp only[aF,gd,am,ak,ao,au,ar,aE,aj]at h;exact h
def PV:List D->uAC:=veil fun p s=>loW (Ao p) s
theorem JU:PV=fun p s=>loW (Ao p) s:=ai _
def FJ:Tb:=Tb.addL YQ 46 4 S46_4.n0 (bQ S46_4 (PV))
theorem Ny:TbOk env (FJ):=aG YR 46 4 (by kernel_rfl) _ (JU)
def S46:FunS:=⟨[utD 38],[],[utB],[]⟩
def F46:uAC:=aO env FJ 60 12 46 S46
theorem F46_e (sd0:D):F46 [sd0] =
 let y0:=q109 [(aa sd0 2),(.int 70),(.int 5000)]
 let y1:=aw (ab .gtr (ae (aa sd0 1)) 300) true (ap y0)
 let y2:=aw (ab .gtr (ae (aa sd0 1)) 300) true (ab .lss (ah (ac y0 0)) 0)
 let y3:=ap (PV [sd0] [(.int 0)])
 let y4:=ac (PV [sd0] [(.int 0)]) 0
 let x0:Option (List D):=some [.bool false]
 gd y1<|bif y2 then x0 else gd y3<|bif ab .eql (ah y4) 0 then some [.bool true]else x0:=by kernel_rfl
def F46_eq:=by have h:= @F46_e;simp only[aF,gd,am,ak,ao,au,ar,aE,aj]at h;exact h
def q46:uAC:=veil (F46)
theorem YT:q46=F46:=ai _
def tb46:Tb:=Tb.addF FJ 46 S46 (q46)
theorem ok_tb46:TbOk env (tb46):=aJ Ny 46 (by kernel_rfl) _ (YT)
def S16:FunS:=⟨[utD 38,utR 9,utR 9],[],[utB],[]⟩
def F16:uAC:=aO env tb46 60 12 16 S16
theorem F16_e (sd0:D) (sd1:D) (sd2:D):F16 [sd0,sd1,sd2] =
 let y0:=aw (aQ (ac (q46 [sd0]) 0)) (ab .leq (ae sd1) 40) false
 gd (ap (q46 [sd0]))<|some [.bool (aw y0 (ab .leq (ae sd2) 70) false)]:=by kernel_rfl
def F16_eq:=by have h:= @F16_e;simp only[aF,gd,am,ak,ao,au,ar,aE,aj]at h;exact h
def q16:uAC:=veil (F16)
theorem YU:q16=F16:=ai _
def tb16:Tb:=Tb.addF tb46 16 S16 (q16)
theorem ok_tb16:TbOk env (tb16):=aJ ok_tb46 16 (by kernel_rfl) _ (YU)
def S15_4:LoopS:=⟨0,ufR 46::ufR 46::uF::uF::ufS (.lit (.bool false))::utI::uAA 20 [],[],[⟨0,0,ufR 46::ufR 46::uT::uT::utS (.lit (.bool false))::uAB 21 [],[]⟩,⟨1,0,ufR 46::ufR 46::uT::uT::utS (.lit (.bool false))::uAB 21 [],[]⟩]⟩
def YV (p s:List D):Option (Sum (List D) (List D)):=aP env tb16 60 12 15 (bb 15 4) S15_4 p s
def l15_4:List D->uAC:=veil fun p s=>loW (YV p) s
theorem YW:l15_4=fun p s=>loW (YV p) s:=ai _
def FK:Tb:=Tb.addL tb16 15 4 S15_4.n0 (bQ S15_4 (l15_4))
theorem Nz:TbOk env (FK):=aG ok_tb16 15 4 (by kernel_rfl) _ (YW)
def S15:FunS:=⟨[utR 46,utR 46],[],[utB],[]⟩
def F15:uAC:=aO env FK 60 12 15 S15
def q15:uAC:=veil (F15)
theorem q15_eq:q15=F15:=ai _
def tb15:Tb:=Tb.addF FK 15 S15 (q15)
theorem ok_tb15:TbOk env (tb15):=aJ Nz 15 (by kernel_rfl) _ (q15_eq)
def S19_4:LoopS:=⟨0,ufR 3::ufR 3::uF::uF::ufS (.lit (.bool false))::utI::uAA 20 [],[],[⟨0,0,ufR 3::ufR 3::uT::uT::utS (.lit (.bool false))::uAB 21 [],[]⟩,⟨1,0,ufR 3::ufR 3::uT::uT::utS (.lit (.bool false))::uAB 21 [],[]⟩]⟩
def YX (p s:List D):Option (Sum (List D) (List D)):=aP env tb15 60 12 19 (bb 19 4) S19_4 p s
def l19_4:List D->uAC:=veil fun p s=>loW (YX p) s
theorem YY:l19_4=fun p s=>loW (YX p) s:=ai _
def FL:Tb:=Tb.addL tb15 19 4 S19_4.n0 (bQ S19_4 (l19_4))
theorem NA:TbOk env (FL):=aG ok_tb15 19 4 (by kernel_rfl) _ (YY)
def S19:FunS:=⟨[utR 3,utR 3],[],[utB],[]⟩
def F19:uAC:=aO env FL 60 12 19 S19
def q19:uAC:=veil (F19)
theorem q19_eq:q19=F19:=ai _
def tb19:Tb:=Tb.addF FL 19 S19 (q19)
theorem ok_tb19:TbOk env (tb19):=aJ NA 19 (by kernel_rfl) _ (q19_eq)
def S134:FunS:=⟨[utD 46],[],[utS (.tup [(.int .u8),(.int .i64), .bool])],[]⟩
def F134:uAC:=aO env tb19 60 12 134 S134
theorem F134_e (sd0:D):F134 [sd0] =
 let y0:=ci (ab .eql (ah (aa sd0 2)) 16) (ab .eql (ah (aa sd0 4)) 4)
 let y1:=ci (ab .eql (ah (aa sd0 2)) 16) (ab .eql (ah (aa sd0 4)) 1)
 let y2:=ci (ab .eql (ah (aa sd0 2)) 17) (ab .eql (ah (aa sd0 4)) 1)
 let y3:=ci (ab .eql (ah (aa sd0 2)) 16) (ab .eql (ah (aa sd0 4)) 2)
 let y4:=ci (ab .eql (ah (aa sd0 2)) 17) (ab .eql (ah (aa sd0 4)) 2)
 let y5:=ci (ab .eql (ah (aa sd0 2)) 18) (ab .eql (ah (aa sd0 4)) 4)
 let y6:=ci (ab .eql (ah (aa sd0 2)) 18) (ab .eql (ah (aa sd0 4)) 1)
 let y7:=ci (ab .eql (ah (aa sd0 2)) 18) (ab .eql (ah (aa sd0 4)) 2)
 let x0:=D.int 5
 let x1:=D.bool true
 bif y0 then some [.int 80,x0,x1]else bif y1 then some [.int 81,x0,x1]else bif y2 then some [.int 82,x0,x1]else bif y3 then some [.int 83,x0,x1]else bif y4 then some [.int 84,x0,x1]else bif y5 then some [.int 85,x0,x1]else bif y6 then some [.int 86,x0,x1]else bif y7 then some [.int 87,x0,x1]else some [.int 0,x0,.bool false]:=by kernel_rfl
def PW:=by have h:= @F134_e;simp only[aF,gd,am,ak,ao,au,ar,aE,aj]at h;exact h
def q134:uAC:=veil (F134)
theorem FM:q134=F134:=ai _
def YZ:Tb:=Tb.addF tb19 134 S134 (q134)
theorem Y0:TbOk env (YZ):=aJ ok_tb19 134 (by kernel_rfl) _ (FM)
def S135:FunS:=⟨[utD 46],[],[utS (.tup [(.int .u8),(.int .i64), .bool])],[]⟩
def F135:uAC:=aO env YZ 60 12 135 S135
theorem F135_e (sd0:D):F135 [sd0] =
 let y0:=aw (ab .lss (ah (aa sd0 5)) 0) true (ab .gtr (ah (aa sd0 5)) 14)
 let y1:=aM .add .u8 144 (fA .u8 (ah (aa sd0 5)))
 let y2:=aM .add .u8 96 (fA .u8 (ah (aa sd0 5)))
 let y3:=aM .add .u8 112 (fA .u8 (ah (aa sd0 5)))
 let x0:Option (List D):=some [.int 0,.int 0,.bool false]
 let x1:=D.bool true
 let x2:=ah (aa sd0 3)
 bif y0 then x0 else bif ab .eql (ah (aa sd0 2)) 25 then some [.int y1,.int 2,x1]else bif ab .eql x2 1 then some [.int y2,.int 7,x1]else bif ab .eql x2 2 then some [.int y3,.int 8,x1]else x0:=by kernel_rfl
def PX:=by have h:= @F135_e;simp only[aF,gd,am,ak,ao,au,ar,aE,aj]at h;exact h
def q135:uAC:=veil (F135)
theorem FN:q135=F135:=ai _
def Y1:Tb:=Tb.addF YZ 135 S135 (q135)
theorem Y2:TbOk env (Y1):=aJ Y0 135 (by kernel_rfl) _ (FN)
def S81:FunS:=⟨[utD 46],[],[utS (.tup [(.int .u8),(.int .i64), .bool])],[]⟩
def F81:uAC:=aO env Y1 60 12 81 S81
theorem F81_e (sd0:D):F81 [sd0] =
 let y0:=aw (ab .eql (ah (aa sd0 2)) 1) (ab .eql (ah (aa sd0 2)) 1) (ab .eql (ah (aa sd0 2)) 2)
 let y1:=aw (ab .eql (ah (aa sd0 2)) 0) (ab .eql (ah (aa sd0 2)) 0) y0
 let y2:=fA .u8 (aM .and .i64 (ah (aa sd0 6)) 7)
 let y3:=aw (ab .geq (ah (aa sd0 2)) 5) (ab .leq (ah (aa sd0 2)) 15) false
 let y4:=fA .u8 (aM .sub .i64 (ah (aa sd0 2)) 5)
 let y5:=aw (ab .eql (ah (aa sd0 2)) 17) (ab .eql (ah (aa sd0 2)) 17) (ab .eql (ah (aa sd0 2)) 18)
 let y6:=aw (ab .eql (ah (aa sd0 2)) 16) (ab .eql (ah (aa sd0 2)) 16) y5
 let y7:=aw (ab .eql (ah (aa sd0 2)) 20) true (ab .eql (ah (aa sd0 2)) 25)
 let x0:=ah (aa sd0 2)
 let x1:=D.int 0
 let x2:=D.bool true
 let x3:=ah (aa sd0 3)
 let x4:Option (List D):=some [x1,x1,.bool false]
 let x5:=q134 [sd0]
 let x6:=q135 [sd0]
 let x7:=D.int 2
 bif y1 then some [.int (fA .u8 x0),x1,x2]else bif ab .eql x0 3 then some [.int (aM .add .u8 8 y2),.int 1,x2]else bif ab .eql x0 4 then some [.int (aM .add .u8 16 y2),.int 1,x2]else bif y3 then bif ab .eql x3 0 then some [.int (aM .add .u8 32 y4),.int 3,x2]else bif ab .eql x3 1 then some [.int (aM .add .u8 48 y4),.int 4,x2]else bif ab .eql x3 2 then some [.int (aM .add .u8 64 y4),.int 6,x2]else x4 else bif y6 then gd (ap x5)<|some [.int (ah (ac x5 0)),.int (ah (ac x5 1)),.bool (aQ (ac x5 2))]else bif ab .eql x0 19 then some [.int 90,.int 5,x2]else bif y7 then gd (ap x6)<|some [.int (ah (ac x6 0)),.int (ah (ac x6 1)),.bool (aQ (ac x6 2))]else bif ab .eql x0 23 then some [.int 128,.int 8,x2]else bif ab .eql x0 24 then some [.int 129,x7,x2]else bif ab .eql x0 21 then some [.int 130,x7,x2]else bif ab .eql x0 22 then some [.int 131,.int 6,x2]else bif ab .eql x0 26 then some [.int 160,x7,x2]else bif ab .eql x0 27 then some [.int 161,x7,x2]else x4:=by kernel_rfl
def fh:=by have h:= @F81_e;simp only[aF,gd,am,ak,ao,au,ar,aE,aj]at h;exact h
def q81:uAC:=veil (F81)
theorem eO:q81=F81:=ai _
def tb81:Tb:=Tb.addF Y1 81 S81 (q81)
theorem ok_tb81:TbOk env (tb81):=aJ Y2 81 (by kernel_rfl) _ (eO)
def S124:FunS:=⟨[utD 46,utI],[],[utD 46],[]⟩
def F124:uAC:=aO env tb81 60 12 124 S124
theorem F124_e (sd0:D) (sn1:Int):F124 [sd0,(D.int sn1)] =
 let y0:=aw (ab .eql sn1 1) (ab .eql sn1 1) (ab .eql sn1 2)
 let y1:=aw (ab .geq (ah (aa sd0 2)) 5) (ab .leq (ah (aa sd0 2)) 15) false
 let y2:=aw (ab .eql (ah (aa sd0 2)) 17) (ab .eql (ah (aa sd0 2)) 17) (ab .eql (ah (aa sd0 2)) 18)
 let y3:=aw (ab .eql (ah (aa sd0 2)) 16) (ab .eql (ah (aa sd0 2)) 16) y2
 let y4:=aw (ab .eql sn1 4) (ab .eql sn1 4) (ab .eql sn1 6)
 let y5:=aw (ab .eql sn1 7) (ab .eql sn1 7) (ab .eql sn1 8)
 let x0:=D.int (ah (aa sd0 0))
 let x1:=D.int 0
 let x2:=ah (aa sd0 2)
 let x3:=D.int x2
 let x4:=D.int (ah (aa sd0 3))
 let x5:=D.int (ah (aa sd0 6))
 let x6:=D.int (ah (aa sd0 8))
 let x7:=D.int (ah (aa sd0 4))
 let x8:=ab .eql x2 20
 let x9:=D.int (ah (aa sd0 5))
 let x10:=ab .eql x2 25
 let x11:=D.int (ah (aa sd0 7))
 let x12:=D.int (ah (aa sd0 1))
 bif y0 then bif y1 then some [.agg [x0,x1,x3,x4,x1,x1,x5,x1,x6]]else bif y3 then some [.agg [x0,x1,x3,x1,x7,x1,x5,x1,x6]]else bif x8 then some [.agg [x0,x1,x3,x4,x1,x9,x5,x1,x6]]else bif x10 then some [.agg [x0,x1,x3,x1,x1,x9,x5,x1,x6]]else some [.agg [x0,x1,x3,x1,x1,x1,x5,x1,x6]]else bif ab .eql sn1 3 then bif y1 then some [.agg [x0,x1,x3,x4,x1,x1,x5,x11,x6]]else bif y3 then some [.agg [x0,x1,x3,x1,x7,x1,x5,x11,x6]]else bif x8 then some [.agg [x0,x1,x3,x4,x1,x9,x5,x11,x6]]else bif x10 then some [.agg [x0,x1,x3,x1,x1,x9,x5,x11,x6]]else some [.agg [x0,x1,x3,x1,x1,x1,x5,x11,x6]]else bif y4 then bif y1 then some [.agg [x0,x12,x3,x4,x1,x1,x5,x1,x6]]else bif y3 then some [.agg [x0,x12,x3,x1,x7,x1,x5,x1,x6]]else bif x8 then some [.agg [x0,x12,x3,x4,x1,x9,x5,x1,x6]]else bif x10 then some [.agg [x0,x12,x3,x1,x1,x9,x5,x1,x6]]else some [.agg [x0,x12,x3,x1,x1,x1,x5,x1,x6]]else bif ab .eql sn1 5 then bif y1 then some [.agg [x0,x12,x3,x4,x1,x1,x5,x11,x6]]else bif y3 then some [.agg [x0,x12,x3,x1,x7,x1,x5,x11,x6]]else bif x8 then some [.agg [x0,x12,x3,x4,x1,x9,x5,x11,x6]]else bif x10 then some [.agg [x0,x12,x3,x1,x1,x9,x5,x11,x6]]else some [.agg [x0,x12,x3,x1,x1,x1,x5,x11,x6]]else bif y5 then bif y1 then some [.agg [x0,x12,x3,x4,x1,x1,x1,x1,x6]]else bif y3 then some [.agg [x0,x12,x3,x1,x7,x1,x1,x1,x6]]else bif x8 then some [.agg [x0,x12,x3,x4,x1,x9,x1,x1,x6]]else bif x10 then some [.agg [x0,x12,x3,x1,x1,x9,x1,x1,x6]]else some [.agg [x0,x12,x3,x1,x1,x1,x1,x1,x6]]else bif y1 then some [.agg [x0,x1,x3,x4,x1,x1,x1,x1,x6]]else bif y3 then some [.agg [x0,x1,x3,x1,x7,x1,x1,x1,x6]]else bif x8 then some [.agg [x0,x1,x3,x4,x1,x9,x1,x1,x6]]else bif x10 then some [.agg [x0,x1,x3,x1,x1,x9,x1,x1,x6]]else some [.agg [x0,x1,x3,x1,x1,x1,x1,x1,x6]]:=by kernel_rfl
def dX:=by have h:= @F124_e;simp only[aF,gd,am,ak,ao,au,ar,aE,aj]at h;exact h
def Y3:uAC:=veil (F124)
theorem dG:Y3=F124:=ai _
def Y4:Tb:=Tb.addF tb81 124 S124 (Y3)
theorem Y5:TbOk env (Y4):=aJ ok_tb81 124 (by kernel_rfl) _ (dG)
def S69:FunS:=⟨[utD 46],[],[utS (.tup [(.int .u8),(.int .i64),(.int .i64)])],[]⟩
def F69:uAC:=aO env Y4 60 12 69 S69
theorem F69_e (sd0:D):F69 [sd0] =
 let y0:=bU (aQ (ac (q81 [sd0]) 2))
 let y1:=aw (ab .geq (ah (aa sd0 6)) 0) (ab .lss (ah (aa sd0 6)) 8) false
 let y2:=aw (ab .geq (ah (aa sd0 7)) 0) (ab .lss (ah (aa sd0 7)) 8) false
 let y3:=Y3 [sd0,(.int (ah (ac (q81 [sd0]) 1)))]
 let y4:=ab .eql (ah (aa (ac y3 0) 0)) (ah (aa sd0 0))
 let y5:=ab .eql (ah (aa (ac y3 0) 1)) (ah (aa sd0 1))
 let y6:=ab .eql (ah (aa (ac y3 0) 2)) (ah (aa sd0 2))
 let y7:=ab .eql (ah (aa (ac y3 0) 3)) (ah (aa sd0 3))
 let y8:=ab .eql (ah (aa (ac y3 0) 4)) (ah (aa sd0 4))
 let y9:=ab .eql (ah (aa (ac y3 0) 5)) (ah (aa sd0 5))
 let y10:=ab .eql (ah (aa (ac y3 0) 6)) (ah (aa sd0 6))
 let y11:=ab .eql (ah (aa (ac y3 0) 7)) (ah (aa sd0 7))
 let y12:=ab .eql (ah (aa (ac y3 0) 8)) (ah (aa sd0 8))
 let y13:=ci y6 (ci y7 (ci y8 (ci y9 (ci y10 (ci y11 y12)))))
 let y14:=ab .eql (ah (ac (q81 [sd0]) 1)) 4
 let y15:=ab .eql (ah (ac (q81 [sd0]) 1)) 5
 let y16:=aw (ab .leq (ah (aa sd0 1)) 127) true (ab .geq (ah (aa sd0 1)) 4294967168)
 let y17:=ab .eql (ah (ac (q81 [sd0]) 1)) 7
 let y18:=aM .sub .u32 (ah (aa sd0 1)) (ah (aa sd0 0))
 let y19:=ab .geq (aM .sub .u32 y18 2) 4294967168
 let y20:=aw (ab .leq (aM .sub .u32 y18 2) 127) true y19
 let y21:=aw (aw (aw y14 true y15) (bU y16) false) true (aw y17 (bU y20) false)
 let x0:=q81 [sd0]
 let x1:=D.int 0
 let x2:Option (List D):=some [x1,x1,.int 2]
 gd (ap x0)<|bif y0 then x2 else bif bU y1 then x2 else bif bU y2 then x2 else gd (ap y3)<|bif bU (ci y4 (ci y5 y13))then x2 else bif y21 then some [x1,x1,.int 7]else some [.int (ah (ac x0 0)),.int (ah (ac x0 1)),x1]:=by kernel_rfl
def F69_eq:=by have h:= @F69_e;simp only[aF,gd,am,ak,ao,au,ar,aE,aj]at h;exact h
def q69:uAC:=veil (F69)
theorem Y6:q69=F69:=ai _
def tb69:Tb:=Tb.addF Y4 69 S69 (q69)
theorem ok_tb69:TbOk env (tb69):=aJ Y5 69 (by kernel_rfl) _ (Y6)
def S20:FunS:=⟨[utD 46],[],[utB],[]⟩
def F20:uAC:=aO env tb69 60 12 20 S20
theorem F20_e (sd0:D):F20 [sd0] =
 let y0:=ab .eql (ah (ac (q69 [sd0]) 2)) 0
 gd (ap (q69 [sd0]))<|some [.bool y0]:=by kernel_rfl
def F20_eq:=by have h:= @F20_e;simp only[aF,gd,am,ak,ao,au,ar,aE,aj]at h;exact h
def q20:uAC:=veil (F20)
theorem Y7:q20=F20:=ai _
def tb20:Tb:=Tb.addF tb69 20 S20 (q20)
theorem ok_tb20:TbOk env (tb20):=aJ ok_tb69 20 (by kernel_rfl) _ (Y7)
def Y8:Tb:=Tb.addF tb20 12 S12 q12
theorem Y9:TbOk env Y8:=TbOk.addF ok_tb20 (by kernel_rfl) sound12
def S5_9:LoopS:=⟨0,uF::uF::ufR 9::uAA 5 (ufS (.lit (.bool false))::ufR 46::ufR 3::uF::utI::uAA 118 []),[],[⟨0,0,uT::uT::ufR 9::uAB 5 (utS (.lit (.bool false))::ufR 46::ufR 3::uAB 120 []),[]⟩,⟨1,0,uT::uT::ufR 9::uAB 5 (utS (.lit (.bool false))::ufR 46::ufR 3::uAB 120 []),[]⟩]⟩
def Ap (p s:List D):Option (Sum (List D) (List D)):=aP env Y8 60 12 5 (bb 5 9) S5_9 p s
theorem st5_9_e (pd0:D) (pd1:D) (pd2:D) (sn0:Int):Ap [pd0,pd1,pd2] [(D.int sn0)] =
 let y0:=aw (ab .lss (ah (ay pd2 sn0)) 0) true (ab .geq (ah (ay pd2 sn0)) (ae pd1))
 let y1:=aw y0 true (ab .neq (ah (aa (ay pd1 sn0) 3)) 2)
 let y2:=aw (ab .neq (ah (aa (ay pd1 sn0) 0)) 0) true (aS pd1 sn0)
 let y3:=aw (ab .neq (ah (aa (ay pd1 sn0) 0)) 0) true (ab .neq (ah (aa (ay pd1 sn0) 8)) 0)
 let y4:=ci (aS pd1 sn0) (ap (q20 [(ay pd1 sn0)]))
 let y5:=aQ (ac (q20 [(ay pd1 sn0)]) 0)
 let y6:=ab .geq (aM .sub .i64 (-2) (ah (ay pd2 sn0))) (ae pd0)
 let y7:=aw (ab .gtr (ah (ay pd2 sn0)) (-2)) true y6
 let x0:=aS pd1 sn0
 let x1:=ah (aa (ay pd1 sn0) 2)
 let x2:Option (List D ⊕ List D):=ge pd0<|ge pd1<|ge pd2<|some (Sum.inr [.int 1])
 let x3:Option (List D ⊕ List D):=gd x0<|gd y2<|gd (aw y3 true y4)<|bif aw y3 true (bU y5)then x2 else ge pd0<|ge pd1<|ge pd2<|some (Sum.inl [.int (aM .add .i64 sn0 1)])
 bif ab .lss sn0 (ae pd1)then gd (aS pd2 sn0)<|gd x0<|bif ab .eql x1 20 then gd (aw y0 true x0)<|bif y1 then x2 else x3 else bif ab .eql x1 23 then bif y7 then x2 else x3 else bif ab .neq (ah (ay pd2 sn0)) (-1)then x2 else x3 else ge pd0<|ge pd1<|ge pd2<|some (Sum.inr [.int 0]):=by kernel_rfl
def JV:=by have h:= @st5_9_e;simp only[aF,gd,am,ak,ao,au,ar,aE,aj]at h;exact h
def l5_9:List D->uAC:=veil fun p s=>loW (Ap p) s
theorem PY:l5_9=fun p s=>loW (Ap p) s:=ai _
def Za:Tb:=Tb.addL Y8 5 9 S5_9.n0 (bQ S5_9 (l5_9))
theorem SF:TbOk env (Za):=aG Y9 5 9 (by kernel_rfl) _ (PY)
def S5:FunS:=⟨[utD 38,utR 9,utR 9,utS (.int .u32)],[],[utB],[]⟩
def F5:uAC:=aO env Za 60 12 5 S5
theorem F5_e (sd0:D) (sd1:D) (sd2:D) (sn3:Int):F5 [sd0,sd1,sd2,(D.int sn3)] =
 let y0:=aQ (ac (q16 [sd0,sd1,sd2]) 0)
 let y1:=q17 [sd0,sd1,sd2,(.int sn3)]
 let y2:=aw (ab .eql (ae (ac y1 0)) 0) (ab .eql (ae (ac y1 1)) 0) false
 let y3:=aw y2 (ap (q12 [])) true
 let y4:=aw y2 (aQ (ac (q12 []) 0)) false
 let y5:=aw (ab .eql (ae (ac y1 0)) 0) true (ab .neq (ae (ac y1 1)) (ae (ac y1 0)))
 let y6:=aS (ac y1 0) (aM .sub .i64 (ae (ac y1 0)) 1)
 let y7:=ay (ac y1 0) (aM .sub .i64 (ae (ac y1 0)) 1)
 let y8:=l5_9 [sd2,(ac y1 0),(ac y1 1)] [(.int 0)]
 let x0:=q12 []
 let x1:Option (List D):=gd (ap x0)<|some [.bool (aQ (ac x0 0))]
 let x2:Option (List D):=some [.bool false]
 gd (ap (q16 [sd0,sd1,sd2]))<|bif bU y0 then x1 else gd (ap y1)<|bif ab .neq (ah (ac y1 2)) 0 then gd y3<|some [.bool y4]else gd (aw y5 true y6)<|bif aw y5 true (ab .neq (ah (aa y7 2)) 2)then x2 else gd (ap y8)<|bif ab .eql (ah (ac y8 0)) 0 then x1 else x2:=by kernel_rfl
def F5_eq:=by have h:= @F5_e;simp only[aF,gd,am,ak,ao,au,ar,aE,aj]at h;exact h
def q5:uAC:=veil (F5)
theorem q5_eq:q5=F5:=ai _
end
end Go.Proofs.YtiojjmlccehpoaaGreat
