/-
  Made by gen3.py: what functions of the seat compute, as partial functions on data, and that they do.
-/
import Derived.Test.YtiojjmlccehpoaaGreatM2
import Derived.KernelRfl
import Derived.Test.YtiojjmlccehpoaaGreatM1
set_option linter.defProp false
set_option linter.unusedSimpArgs false
set_option linter.unusedVariables false
set_option maxRecDepth 100000
open Go Go.AM
namespace Go.Proofs.YtiojjmlccehpoaaGreat
noncomputable section
def sH:FunS:=⟨[utP 0 0,utD 187],[(.lst true 106),(.lst true 106),(.mp true 9 106),(.mp true 106 3),(.lst true 106),(.lst true 46),(.cells [ufO 1 46,ufO 2 106,ufS (.map 3),ufS (.map 4),utI,ufR 9,ufR 9,ufS (.int .u32),ufI,ufO 5 106,ufO 6 106])],[utS (.tup [])],[(.lst true 106),(.lst true 106),(.lst true 106),(.lst true 46), .skip, .skip,(.mp true 9 106),(.mp true 106 3), .skip, .skip,(.cells [utO 7 46,utO 8 106,utS (.map 3),utS (.map 4),utI,ufR 9,ufR 9,ufS (.int .u32),ufI,utS (.oslc 9 106),utS (.oslc 10 106)])]⟩
def OB (Q:uAC):Tb:=Tb.addF Z8 117 sH Q
theorem UH (Q:uAC) (hQ:aH env.P 117 sH Q):TbOk env (OB Q):=TbOk.addF Km (by kernel_rfl) hQ
def S56_1:LoopS:=⟨7,ufP 0 0::uAA 5 (ufR 187::ufI::utI::uAA 7 []),[(.lst true 106),(.lst true 106),(.lst true 106),(.lst true 46), .skip, .skip,(.mp true 9 106),(.mp true 106 3), .skip, .skip,(.cells [ufO 7 46,ufO 8 106,ufS (.map 3),ufS (.map 4),utI,ufR 9,ufR 9,ufS (.int .u32),ufI,ufO 9 106,ufO 10 106])],[⟨0,0,uAB 6 (ufR 187::ufI::uAB 8 []),[(.lst true 106),(.lst true 106),(.lst true 106),(.lst true 46), .skip, .skip,(.mp true 9 106),(.mp true 106 3), .skip, .skip,(.cells [utO 7 46,utO 8 106,utS (.map 3),utS (.map 4),utI,ufR 9,ufR 9,ufS (.int .u32),ufI,utO 9 106,utO 10 106])]⟩]⟩
def Gi (Q:uAC) (p s:List D):Option (Sum (List D) (List D)):=aO env (OB Q) 60 12 56 (bc 56 1) S56_1 p s
theorem st56_1_e (Q:uAC) (pd0:D) (pn1:Int) (pd2:D) (pd3:D) (pn4:Int) (pn5:Int) (sn0:Int) (sd1:D) (sd2:D) (sd3:D) (sd4:D) (sd5:D) (sd6:D) (sn7:Int):Gi Q [pd0,(D.int pn1),pd2,pd3,(D.int pn4),(D.int pn5)] [(D.int sn0),sd1,sd2,sd3,sd4,sd5,sd6,(D.int sn7)] =
 let y0:=ao (Q [pd2,pd3,(.int pn4),(.int pn5),(ax pd0 sn0),sd1,sd2,sd5,sd6,sd3,sd4,(.int sn7)])
 let y1:=ab (Q [pd2,pd3,(.int pn4),(.int pn5),(ax pd0 sn0),sd1,sd2,sd5,sd6,sd3,sd4,(.int sn7)]) 3
 let y2:=ab (Q [pd2,pd3,(.int pn4),(.int pn5),(ax pd0 sn0),sd1,sd2,sd5,sd6,sd3,sd4,(.int sn7)]) 2
 let y3:=ab (Q [pd2,pd3,(.int pn4),(.int pn5),(ax pd0 sn0),sd1,sd2,sd5,sd6,sd3,sd4,(.int sn7)]) 1
 let y4:=ab (Q [pd2,pd3,(.int pn4),(.int pn5),(ax pd0 sn0),sd1,sd2,sd5,sd6,sd3,sd4,(.int sn7)]) 0
 let y5:=ab (Q [pd2,pd3,(.int pn4),(.int pn5),(ax pd0 sn0),sd1,sd2,sd5,sd6,sd3,sd4,(.int sn7)]) 4
 let y6:=ab (Q [pd2,pd3,(.int pn4),(.int pn5),(ax pd0 sn0),sd1,sd2,sd5,sd6,sd3,sd4,(.int sn7)]) 5
 let y7:=ab (Q [pd2,pd3,(.int pn4),(.int pn5),(ax pd0 sn0),sd1,sd2,sd5,sd6,sd3,sd4,(.int sn7)]) 6
 let x0:=ae .eql (ac sd4) (ac sd4)
 let x1:=ae .eql (ac sd3) (ac sd3)
 let x2:=ae .eql (ac sd2) (ac sd2)
 let x3:=ae .eql (ac sd1) (ac sd1)
 bif ae .lss sn0 pn1 then gd (aS pd0 sn0)<|gd x0<|gd x1<|gd x2<|gd x3<|gd y0<|gd (ae .eql (ac y1) (ac y1))<|gd (ae .eql (ac y2) (ac y2))<|gd (ae .eql (ac y3) (ac y3))<|gd (ae .eql (ac y4) (ac y4))<|ge pd0<|ge (.int pn1)<|ge pd2<|ge pd3<|ge (.int pn4)<|ge (.int pn5)<|some (Sum.inl [.int (aM .add .i64 sn0 1),y4,y3,y2,y1,y5,y6,.int (ah y7)])else gd x0<|gd x1<|gd x2<|gd x3<|ge pd0<|ge (.int pn1)<|ge pd2<|ge pd3<|ge (.int pn4)<|ge (.int pn5)<|some (Sum.inr [.int 0,sd1,sd2,sd3,sd4,sd5,sd6,.int sn7]):=by kernel_rfl
def Dz:=by have h:= @st56_1_e;simp only[aE,gd,aj,ai,ak,au,ar,aD,ap]at h;exact h
def l56_1 (Q:uAC):List D->uAC:=veil fun p s=>loW (Gi Q p) s
theorem KM (Q:uAC):l56_1 Q=fun p s=>loW (Gi Q p) s:=am _
def Gj (Q:uAC):Tb:=Tb.addL (OB Q) 56 1 S56_1.n0 (bL S56_1 (l56_1 Q))
theorem AQ (Q:uAC) (hQ:aH env.P 117 sH Q):TbOk env (Gj Q):=aG (UH Q hQ) 56 1 (by kernel_rfl) _ (KM Q)
def S56:FunS:=⟨[utP 0 0,utR 187],[(.lst true 106),(.lst true 106),(.mp true 9 106),(.mp true 106 3),(.lst true 106),(.lst true 46),(.cells [ufO 1 46,ufO 2 106,ufS (.map 3),ufS (.map 4),utI,ufR 9,ufR 9,ufS (.int .u32),ufI,ufO 5 106,ufO 6 106])],[utS (.tup [])],[(.lst true 106),(.lst true 106),(.lst true 106),(.lst true 46), .skip, .skip,(.mp true 9 106),(.mp true 106 3), .skip, .skip,(.cells [utO 7 46,utO 8 106,utS (.map 3),utS (.map 4),utI,ufR 9,ufR 9,ufS (.int .u32),ufI,utO 9 106,utO 10 106])]⟩
def F56 (Q:uAC):uAC:=aN env (Gj Q) 60 12 56 S56
theorem F56_e (Q:uAC) (pd0:D) (pd1:D) (pn2:Int) (pn3:Int) (sd0:D) (sd1:D) (sd2:D) (sd3:D) (sd4:D) (sd5:D) (sd6:D) (sn7:Int):F56 Q [pd0,pd1,(D.int pn2),(D.int pn3),sd0,sd1,sd2,sd3,sd4,sd5,sd6,(D.int sn7)] =
 let y0:=l56_1 Q [sd0,(.int (ac sd0)),pd0,pd1,(.int pn2),(.int pn3)] [(.int 0),sd1,sd2,sd5,sd6,sd3,sd4,(.int sn7)]
 gd (ae .eql (ac sd6) (ac sd6))<|gd (ae .eql (ac sd5) (ac sd5))<|gd (ae .eql (ac sd2) (ac sd2))<|gd (ae .eql (ac sd1) (ac sd1))<|gd (ao y0)<|gd (ae .eql (ac (ab y0 4)) (ac (ab y0 4)))<|gd (ae .eql (ac (ab y0 3)) (ac (ab y0 3)))<|gd (ae .eql (ac (ab y0 2)) (ac (ab y0 2)))<|gd (ae .eql (ac (ab y0 1)) (ac (ab y0 1)))<|ge pd0<|ge pd1<|ge (.int pn2)<|ge (.int pn3)<|some [ab y0 1,ab y0 2,ab y0 3,ab y0 4,ab y0 5,ab y0 6,.int (ah (ab y0 7))]:=by kernel_rfl
def F56_eq:=by have h:= @F56_e;simp only[aE,gd,aj,ai,ak,au,ar,aD,ap]at h;exact h
def q56 (Q:uAC):uAC:=veil (F56 Q)
theorem OC (Q:uAC):q56 Q=F56 Q:=am _
def tb56 (Q:uAC):Tb:=Tb.addF (Gj Q) 56 S56 (q56 Q)
theorem ok_tb56 (Q:uAC) (hQ:aH env.P 117 sH Q):TbOk env (tb56 Q):=aI (AQ Q hQ) 56 (by kernel_rfl) _ (OC Q)
def tbJ (Q:uAC):Tb:=Tb.addF (Tb.addF (Tb.addF tb61 49 S49 q49) 225 S225 Up) 56 S56 (q56 Q)
theorem ok_tbJ (Q:uAC) (hQ:aH env.P 117 sH Q):TbOk env (tbJ Q):=TbOk.addF (TbOk.addF (TbOk.addF Ra (by kernel_rfl) (by rw[Oi];exact eE jt Rg 60 12)) (by kernel_rfl) (by rw[F7];exact eE jt Ri 60 12)) (by kernel_rfl) (by rw[OC];exact eE jt (AQ Q hQ) 60 12)
def S171:FunS:=⟨[utP 0 0,utD 187],[(.lst true 106),(.lst true 106),(.mp true 9 106),(.mp true 106 3),(.lst true 106),(.lst true 46),(.cells [ufO 1 46,ufO 2 106,ufS (.map 3),ufS (.map 4),utI,ufR 9,ufR 9,ufS (.int .u32),ufI,ufO 5 106,ufO 6 106])],[utS (.tup [])],[(.lst true 106),(.lst true 106),(.lst true 106),(.lst true 46), .skip, .skip,(.mp true 9 106),(.mp true 106 3), .skip, .skip,(.cells [utO 7 46,utO 8 106,utS (.map 3),utS (.map 4),utI,ufR 9,ufR 9,ufS (.int .u32),ufI,utO 9 106,utO 10 106])]⟩
def F171 (Q:uAC):uAC:=aN env (tb56 Q) 60 12 171 S171
theorem F171_e (Q:uAC) (pd0:D) (pd1:D) (pn2:Int) (pn3:Int) (sd0:D) (sd1:D) (sd2:D) (sd3:D) (sd4:D) (sd5:D) (sd6:D) (sn7:Int):F171 Q [pd0,pd1,(D.int pn2),(D.int pn3),sd0,sd1,sd2,sd3,sd4,sd5,sd6,(D.int sn7)] =
 let y0:=q49 [sd1,sd2,sd3,sd4,sd5,sd6,pd0,pd1,(.int pn2),(.int pn3),(.int sn7)]
 let y1:=Up [sd1,sd2,sd3,sd4,(.int (ah (ab y0 1))),pd0,pd1,(.int pn2),(.int pn3),(ax (aa sd0 3) 0),(.int (ah (ab y0 0))),sd5,sd6]
 let y2:=q56 Q [pd0,pd1,(.int pn2),(.int pn3),(aa sd0 4),sd1,sd2,sd3,sd4,(ab y1 0),(ab y1 1),(.int (ah (ab y0 1)))]
 let y3:=q57 [(ab y2 0),(ab y2 1),(ab y2 4),(ab y2 2),(ab y2 3),(.int (ah (ab y2 6))),pd0,pd1,(.int pn2),(.int pn3),(.int (ah (ab y0 0))),(ab y2 5)]
 let y4:=q49 [(ab y2 0),(ab y2 1),(ab y2 4),(ab y2 5),(ab y2 2),(ab y2 3),pd0,pd1,(.int pn2),(.int pn3),(.int (ah (ab y2 6)))]
 let y5:=AB [(ab y2 0),(ab y2 1),(ab y2 4),(ab y2 5),(.int (ah (ab y4 1))),pd0,pd1,(.int pn2),(.int pn3),(.int 0),(.int (ah (ab y4 0))),(ab y2 2),(ab y2 3)]
 let y6:=q57 [(ab y2 0),(ab y2 1),(ab y2 4),(ab y5 0),(ab y5 1),(.int (ah (ab y4 1))),pd0,pd1,(.int pn2),(.int pn3),(.int (ah (ab y0 0))),(ab y2 5)]
 let y7:=q56 Q [pd0,pd1,(.int pn2),(.int pn3),(aa sd0 5),(ab y2 0),(ab y2 1),(ab y2 4),(ab y6 0),(ab y5 0),(ab y5 1),(.int (ah (ab y4 1)))]
 let y8:=q57 [(ab y7 0),(ab y7 1),(ab y7 4),(ab y7 2),(ab y7 3),(.int (ah (ab y7 6))),pd0,pd1,(.int pn2),(.int pn3),(.int (ah (ab y4 0))),(ab y7 5)]
 let x0:=ae .eql (ac sd6) (ac sd6)
 let x1:=ae .eql (ac sd5) (ac sd5)
 let x2:=ae .eql (ac sd2) (ac sd2)
 let x3:=ae .eql (ac sd1) (ac sd1)
 let x4:=ac (ab y1 1)
 let x5:=ac (ab y1 0)
 let x6:=ae .eql (ac (ab y2 3)) (ac (ab y2 3))
 let x7:=ae .eql (ac (ab y2 2)) (ac (ab y2 2))
 let x8:=ae .eql (ac (ab y2 1)) (ac (ab y2 1))
 let x9:=ae .eql (ac (ab y2 0)) (ac (ab y2 0))
 let x10:=ac (ab y5 1)
 let x11:=ae .eql x10 x10
 let x12:=ac (ab y5 0)
 let x13:=ae .eql x12 x12
 let x14:=ae .eql (ac (ab y7 3)) (ac (ab y7 3))
 let x15:=ae .eql (ac (ab y7 2)) (ac (ab y7 2))
 let x16:=ae .eql (ac (ab y7 1)) (ac (ab y7 1))
 let x17:=ae .eql (ac (ab y7 0)) (ac (ab y7 0))
 gd x0<|gd x1<|gd x2<|gd x3<|gd (ao y0)<|gd (aS (aa sd0 3) 0)<|gd x0<|gd x1<|gd x2<|gd x3<|gd (ao y1)<|gd (ae .eql x4 x4)<|gd (ae .eql x5 x5)<|gd x2<|gd x3<|gd (ao y2)<|bif ae .eql (ac (aa sd0 5)) 0 then gd x6<|gd x7<|gd x8<|gd x9<|gd (ao y3)<|gd x6<|gd x7<|gd x8<|gd x9<|ge pd0<|ge pd1<|ge (.int pn2)<|ge (.int pn3)<|some [ab y2 0,ab y2 1,ab y2 2,ab y2 3,ab y2 4,ab y3 0,.int (ah (ab y2 6))]else gd x6<|gd x7<|gd x8<|gd x9<|gd (ao y4)<|gd x6<|gd x7<|gd x8<|gd x9<|gd (ao y5)<|gd x11<|gd x13<|gd x8<|gd x9<|gd (ao y6)<|gd x11<|gd x13<|gd x8<|gd x9<|gd (ao y7)<|gd x14<|gd x15<|gd x16<|gd x17<|gd (ao y8)<|gd x14<|gd x15<|gd x16<|gd x17<|ge pd0<|ge pd1<|ge (.int pn2)<|ge (.int pn3)<|some [ab y7 0,ab y7 1,ab y7 2,ab y7 3,ab y7 4,ab y8 0,.int (ah (ab y7 6))]:=by kernel_rfl
def Rx:=by have h:= @F171_e;simp only[aE,gd,aj,ai,ak,au,ar,aD,ap]at h;exact h
def q171 (Q:uAC):uAC:=veil (F171 Q)
theorem Gk (Q:uAC):q171 Q=F171 Q:=am _
def tb171 (Q:uAC):Tb:=Tb.addF (tb56 Q) 171 S171 (q171 Q)
theorem ok_tb171 (Q:uAC) (hQ:aH env.P 117 sH Q):TbOk env (tb171 Q):=aI (ok_tb56 Q hQ) 171 (by kernel_rfl) _ (Gk Q)
def S172:FunS:=⟨[utP 0 0,utD 187],[(.lst true 106),(.lst true 106),(.mp true 9 106),(.mp true 106 3),(.lst true 106),(.lst true 46),(.cells [ufO 1 46,ufO 2 106,ufS (.map 3),ufS (.map 4),utI,ufR 9,ufR 9,ufS (.int .u32),ufI,ufO 5 106,ufO 6 106])],[utS (.tup [])],[(.lst true 106),(.lst true 106),(.lst true 106),(.lst true 46), .skip, .skip,(.mp true 9 106),(.mp true 106 3), .skip, .skip,(.cells [utO 7 46,utO 8 106,utS (.map 3),utS (.map 4),utI,ufR 9,ufR 9,ufS (.int .u32),ufI,utS (.oslc 9 106),utS (.oslc 10 106)])]⟩
def F172 (Q:uAC):uAC:=aN env (tbJ Q) 60 12 172 S172
theorem F172_e (Q:uAC) (pd0:D) (pd1:D) (pn2:Int) (pn3:Int) (sd0:D) (sd1:D) (sd2:D) (sd3:D) (sd4:D) (sd5:D) (sd6:D) (sn7:Int):F172 Q [pd0,pd1,(D.int pn2),(D.int pn3),sd0,sd1,sd2,sd3,sd4,sd5,sd6,(D.int sn7)] =
 let y0:=q49 [sd1,sd2,sd3,sd4,sd5,sd6,pd0,pd1,(.int pn2),(.int pn3),(.int sn7)]
 let y1:=q49 [sd1,sd2,sd3,sd4,sd5,sd6,pd0,pd1,(.int pn2),(.int pn3),(.int (ah (ab y0 1)))]
 let y2:=cz (ae .eql (ac sd2) (ac sd2)) (ae .eql (ac sd1) (ac sd1))
 let y3:=cz (ae .eql pn2 pn2) (cz (ae .eql pn3 pn3) y2)
 let y4:=cz (ae .eql (ah (ab y1 1)) (ah (ab y1 1))) (cz (f8 pd0 pd0) (cz (f8 pd1 pd1) y3))
 let y5:=cz (ae .eql (ac sd6) (ac sd6)) (cz (ae .eql (ac sd5) (ac sd5)) y4)
 let y6:=dB 106 sd4 (.int (ah (ab y0 0))) (.int (ac sd6))
 let y7:=Up [sd1,sd2,sd3,y6,(.int (ah (ab y1 1))),pd0,pd1,(.int pn2),(.int pn3),(ax (aa sd0 3) 0),(.int (ah (ab y1 0))),sd5,sd6]
 let y8:=ci (ac (bt sd2 (.list [(.int (ah (ab y0 0)))]))) 8
 let y9:=ci (ac (bt sd1 (.list [(.int (ah (ab y1 0)))]))) 8
 let y10:=ae .eql (ac (bt sd2 (.list [(.int (ah (ab y0 0)))]))) (ac (bt sd2 (.list [(.int (ah (ab y0 0)))])))
 let y11:=ae .eql (ac (bt sd1 (.list [(.int (ah (ab y1 0)))]))) (ac (bt sd1 (.list [(.int (ah (ab y1 0)))])))
 let y12:=q56 Q [pd0,pd1,(.int pn2),(.int pn3),(aa sd0 4),(bt sd1 (.list [(.int (ah (ab y1 0)))])),(bt sd2 (.list [(.int (ah (ab y0 0)))])),sd3,y6,(ab y7 0),(ab y7 1),(.int (ah (ab y1 1)))]
 let y13:=bt (ab y12 3) (.list [(.agg [(.int 0),(.int 0),(.int 20),(.int 2),(.int 0),(.int 0),(.int 0),(.int 0),(.int 0)])])
 let y14:=ac (bt (ab y12 2) (.list [(.int (ah (ab y0 0)))]))
 let y15:=cz (ae .eql (ac sd2) (ac sd2)) (ae .eql (ac sd2) (ac sd2))
 let y16:=cz (ae .eql pn2 pn2) (cz (ae .eql pn3 pn3) y15)
 let y17:=cz (ae .eql (ah (ab y12 6)) (ah (ab y12 6))) (cz (f8 pd0 pd0) (cz (f8 pd1 pd1) y16))
 let y18:=cz (ae .eql (ac y13) (ac y13)) (cz (ae .eql y14 y14) y17)
 let y19:=ae .eql (ac sd2) (ac (dA (ab y12 1) 0 (ac sd2)))
 let y20:=ae .eql (ac sd2) (ac (dA (ab y12 0) 0 (ac sd2)))
 let y21:=dB 106 (ab y12 5) (.int (ah (ab y1 0))) (.int (ac y13))
 let y22:=q56 Q [pd0,pd1,(.int pn2),(.int pn3),(aa sd0 4),(bt sd1 (.list [(.int (ah (ab y1 0)))])),(bt sd2 (.list [(.int (ah (ab y0 0)))])),sd3,y6,sd5,sd6,(.int (ah (ab y1 1)))]
 let y23:=bt (ab y22 3) (.list [(.agg [(.int 0),(.int 0),(.int 20),(.int 2),(.int 0),(.int 0),(.int 0),(.int 0),(.int 0)])])
 let y24:=ac (bt (ab y22 2) (.list [(.int (ah (ab y0 0)))]))
 let y25:=cz (ae .eql (ah (ab y22 6)) (ah (ab y22 6))) (cz (f8 pd0 pd0) (cz (f8 pd1 pd1) y16))
 let y26:=cz (ae .eql (ac y23) (ac y23)) (cz (ae .eql y24 y24) y25)
 let y27:=ae .eql (ac sd2) (ac (dA (ab y22 1) 0 (ac sd2)))
 let y28:=ae .eql (ac sd2) (ac (dA (ab y22 0) 0 (ac sd2)))
 let y29:=dB 106 (ab y22 5) (.int (ah (ab y1 0))) (.int (ac y23))
 let x0:=ae .eql (ac sd6) (ac sd6)
 let x1:=ae .eql (ac sd5) (ac sd5)
 let x2:=ac sd2
 let x3:=ae .eql x2 x2
 let x4:=ae .eql (ac sd1) (ac sd1)
 let x5:=ac (ab y7 1)
 let x6:=ac (ab y7 0)
 let x7:=ae .leq 0 x2
 let x8:=ac (ab y12 3)
 let x9:=ac y13
 let x10:=D.list [.int (ah (ab y0 0))]
 let x11:=ac (ab y22 3)
 let x12:=ac y23
 gd x0<|gd x1<|gd x3<|gd x4<|gd (ao y0)<|gd x0<|gd x1<|gd x3<|gd x4<|gd (ao y1)<|gd y5<|bif ae .eql (ah (aa sd0 0)) 7 then gd (aS (aa sd0 3) 0)<|gd x0<|gd x1<|gd x3<|gd x4<|gd (ao y7)<|gd x3<|gd y8<|gd x4<|gd y9<|gd (ae .eql x5 x5)<|gd (ae .eql x6 x6)<|gd y10<|gd y11<|gd (ao y12)<|gd x7<|gd (ae .leq x2 (ac (ab y12 1)))<|gd x7<|gd (ae .leq x2 (ac (ab y12 0)))<|gd (ae .eql x8 x8)<|gd (ci x9 64)<|gd (ae .eql (ac (ab y12 2)) (ac (ab y12 2)))<|gd (ci y14 8)<|gd y18<|gd (ae .eql x9 x9)<|gd (ae .eql y14 y14)<|gd y19<|gd y20<|ge pd0<|ge pd1<|ge (.int pn2)<|ge (.int pn3)<|some [dA (ab y12 0) 0 x2,dA (ab y12 1) 0 x2,bt (ab y12 2) x10,y13,ab y12 4,y21,.int (ah (ab y12 6))]else gd x3<|gd y8<|gd x4<|gd y9<|gd x0<|gd x1<|gd y10<|gd y11<|gd (ao y22)<|gd x7<|gd (ae .leq x2 (ac (ab y22 1)))<|gd x7<|gd (ae .leq x2 (ac (ab y22 0)))<|gd (ae .eql x11 x11)<|gd (ci x12 64)<|gd (ae .eql (ac (ab y22 2)) (ac (ab y22 2)))<|gd (ci y24 8)<|gd y26<|gd (ae .eql x12 x12)<|gd (ae .eql y24 y24)<|gd y27<|gd y28<|ge pd0<|ge pd1<|ge (.int pn2)<|ge (.int pn3)<|some [dA (ab y22 0) 0 x2,dA (ab y22 1) 0 x2,bt (ab y22 2) x10,y23,ab y22 4,y29,.int (ah (ab y22 6))]:=by kernel_rfl
def Ry:=by have h:= @F172_e;simp only[aE,gd,aj,ai,ak,au,ar,aD,ap]at h;exact h
def q172 (Q:uAC):uAC:=veil (F172 Q)
theorem Gl (Q:uAC):q172 Q=F172 Q:=am _
def tbK (Q:uAC):Tb:=Tb.addF (tb171 Q) 172 S172 (q172 Q)
theorem ok_tbK (Q:uAC) (hQ:aH env.P 117 sH Q):TbOk env (tbK Q):=TbOk.addF (ok_tb171 Q hQ) (by kernel_rfl) (by rw[Gl];exact eE jt (ok_tbJ Q hQ) 60 12)
def S173_4:LoopS:=⟨7,ufP 0 0::uF::uF::ufP 11 0::ufP 12 0::uAA 12 (ufI::utI::uAA 52 []),[(.lst true 106),(.cells [ufO 13 106]),(.dat false 187),(.lst false 106),(.lst false 106),(.lst true 106),(.lst true 46), .skip, .skip,(.mp false 9 106),(.mp false 106 3), .skip, .skip,(.cells [ufO 7 46,ufO 8 106,ufS (.map 3),ufS (.map 4),utI,ufR 9,ufR 9,ufS (.int .u32),ufI,ufO 9 106,ufO 10 106])],[⟨0,0,utP 0 0::uT::uT::utP 11 0::utP 12 0::uAB 12 (ufI::uAB 53 []),[(.lst true 106),(.cells [utO 13 106]),(.dat false 187),(.lst false 106),(.lst false 106),(.lst true 106),(.lst true 46), .skip, .skip,(.mp false 9 106),(.mp false 106 3), .skip, .skip,(.cells [utO 7 46,utO 8 106,utS (.map 3),utS (.map 4),utI,ufR 9,ufR 9,ufS (.int .u32),ufI,utO 9 106,utO 10 106])]⟩]⟩
def vU (Q:uAC) (p s:List D):Option (Sum (List D) (List D)):=aO env (tbK Q) 60 12 173 (bc 173 4) S173_4 p s
theorem UI (Q:uAC) (pn0:Int) (pd1:D) (pd2:D) (pd3:D) (pd4:D) (pd5:D) (pd6:D) (pd7:D) (pn8:Int) (pn9:Int) (sn0:Int) (sd1:D) (sd2:D) (sd3:D) (sn4:Int):vU Q [(D.int pn0),pd1,pd2,pd3,pd4,pd5,pd6,pd7,(D.int pn8),(D.int pn9)] [(D.int sn0),sd1,sd2,sd3,(D.int sn4)] =
 let y0:=q49 [pd2,pd3,pd4,pd5,sd2,sd3,pd6,pd7,(.int pn8),(.int pn9),(.int sn4)]
 let y1:=ci (ac (bt sd1 (.list [(.int (ah (ab y0 0)))]))) 8
 let y2:=q50 [pd2,pd3,pd4,pd5,(.int (ah (ab y0 1))),pd6,pd7,(.int pn8),(.int pn9),(.list [(.agg [(.int 0),(.int (fz .u32 sn0)),(.int 15),(.int 1),(.int 0),(.int 0),(.int 0),(.int 0),(.int 0)])]),sd2,sd3]
 let y3:=ae .lss sn0 (ac (bt sd1 (.list [(.int (ah (ab y0 0)))])))
 let y4:=ah (ax (bt sd1 (.list [(.int (ah (ab y0 0)))])) sn0)
 let y5:=AB [pd2,pd3,pd4,pd5,(.int (ah (ab y0 1))),pd6,pd7,(.int pn8),(.int pn9),(.int 1),(.int y4),(ab y2 0),(ab y2 1)]
 let y6:=ae .eql (ac (bt sd1 (.list [(.int (ah (ab y0 0)))]))) (ac (bt sd1 (.list [(.int (ah (ab y0 0)))])))
 let x0:=ae .eql (ac sd3) (ac sd3)
 let x1:=ae .eql (ac sd2) (ac sd2)
 let x2:=ae .eql (ac pd3) (ac pd3)
 let x3:=ae .eql (ac pd2) (ac pd2)
 let x4:=ae .eql (ac sd1) (ac sd1)
 let x5:=bt sd1 (.list [.int (ah (ab y0 0))])
 let x6:=ac (ab y2 1)
 let x7:=ac (ab y2 0)
 bif ae .lss sn0 pn0 then gd x0<|gd x1<|gd x2<|gd x3<|gd (ao y0)<|gd x4<|gd y1<|gd x0<|gd x1<|gd x2<|gd x3<|gd (ao y2)<|gd (ae .leq 0 sn0)<|gd y3<|gd (aS x5 sn0)<|gd (ae .eql x6 x6)<|gd (ae .eql x7 x7)<|gd x2<|gd x3<|gd (ao y5)<|gd y6<|gd (ae .eql (ac (ab y5 1)) (ac (ab y5 1)))<|gd (ae .eql (ac (ab y5 0)) (ac (ab y5 0)))<|gd x2<|gd x3<|ge (.int pn0)<|ge pd1<|ge pd2<|ge pd3<|ge pd4<|ge pd5<|ge pd6<|ge pd7<|ge (.int pn8)<|ge (.int pn9)<|some (Sum.inl [.int (aM .add .i64 sn0 1),x5,ab y5 0,ab y5 1,.int (ah (ab y0 1))])else gd x4<|gd x0<|gd x1<|gd x2<|gd x3<|ge (.int pn0)<|ge pd1<|ge pd2<|ge pd3<|ge pd4<|ge pd5<|ge pd6<|ge pd7<|ge (.int pn8)<|ge (.int pn9)<|some (Sum.inr [.int 0,sd1,sd2,sd3,.int sn4]):=by kernel_rfl
def AR:=by have h:= @UI;simp only[aE,gd,aj,ai,ak,au,ar,aD,ap]at h;exact h
def Gm (Q:uAC):List D->uAC:=veil fun p s=>loW (vU Q p) s
theorem DA (Q:uAC):Gm Q=fun p s=>loW (vU Q p) s:=am _
def AS (Q:uAC):Tb:=Tb.addL (tbK Q) 173 4 S173_4.n0 (bL S173_4 (Gm Q))
theorem KN (Q:uAC) (hQ:aH env.P 117 sH Q):TbOk env (AS Q):=aG (ok_tbK Q hQ) 173 4 (by kernel_rfl) _ (DA Q)
def S173_13:LoopS:=⟨7,ufP 0 0::uF::uF::uF::ufP 11 0::uF::ufI::uAA 40 (ufR 36::ufI::utI::uAA 21 []),[(.lst false 106),(.cells [ufO 12 106]),(.lst true 106),(.lst true 106),(.lst true 106),(.lst true 46), .skip, .skip,(.mp true 9 106),(.mp true 106 3), .skip, .skip,(.cells [ufO 7 46,ufO 8 106,ufS (.map 3),ufS (.map 4),utI,ufR 9,ufR 9,ufS (.int .u32),ufI,ufO 9 106,ufO 10 106])],[⟨0,2,utP 0 0::uAB 5 (ufI::uAB 40 (ufR 36::ufI::uAB 22 [])),[(.lst false 106),(.cells [uT]),(.lst true 106),(.lst true 106),(.lst true 106),(.lst true 46), .skip, .skip,(.mp true 9 106),(.mp true 106 3), .skip, .skip,(.cells [utO 7 46,utO 8 106,utS (.map 3),utS (.map 4),utI,ufR 9,ufR 9,ufS (.int .u32),ufI,utO 9 106,utO 10 106])]⟩]⟩
def qx (Q:uAC) (p s:List D):Option (Sum (List D) (List D)):=aO env (AS Q) 60 12 173 (bc 173 13) S173_13 p s
theorem OD (Q:uAC) (pn0:Int) (pd1:D) (pn2:Int) (pd3:D) (pd4:D) (pd5:D) (pn6:Int) (pn7:Int) (sn0:Int) (sd1:D) (sd2:D) (sd3:D) (sd4:D) (sd5:D) (sd6:D) (sn7:Int):qx Q [(D.int pn0),pd1,(D.int pn2),pd3,pd4,pd5,(D.int pn6),(D.int pn7)] [(D.int sn0),sd1,sd2,sd3,sd4,sd5,sd6,(D.int sn7)] =
 let y0:=q57 [sd1,sd2,sd5,sd3,sd4,(.int sn7),pd4,pd5,(.int pn6),(.int pn7),(.int (ah (ax pd3 sn0))),sd6]
 let y1:=q56 Q [pd4,pd5,(.int pn6),(.int pn7),(ax pd1 sn0),sd1,sd2,sd5,(ab y0 0),sd3,sd4,(.int sn7)]
 let y2:=AB [(ab y1 0),(ab y1 1),(ab y1 4),(ab y1 5),(.int (ah (ab y1 6))),pd4,pd5,(.int pn6),(.int pn7),(.int 0),(.int pn0),(ab y1 2),(ab y1 3)]
 let x0:=ac pd3
 let x1:=ae .eql (ac sd4) (ac sd4)
 let x2:=ae .eql (ac sd3) (ac sd3)
 let x3:=ae .eql (ac sd2) (ac sd2)
 let x4:=ae .eql (ac sd1) (ac sd1)
 let x5:=ac (ab y1 3)
 let x6:=ac (ab y1 2)
 let x7:=ae .eql (ac (ab y1 1)) (ac (ab y1 1))
 let x8:=ae .eql (ac (ab y1 0)) (ac (ab y1 0))
 bif ae .lss sn0 pn2 then gd (aS pd1 sn0)<|gd (ae .leq 0 sn0)<|gd (ae .lss sn0 x0)<|gd (aS pd3 sn0)<|gd x1<|gd x2<|gd x3<|gd x4<|gd (ao y0)<|gd x1<|gd x2<|gd x3<|gd x4<|gd (ao y1)<|gd (ae .eql x5 x5)<|gd (ae .eql x6 x6)<|gd x7<|gd x8<|gd (ao y2)<|gd (ae .eql x0 x0)<|gd (ae .eql (ac (ab y2 1)) (ac (ab y2 1)))<|gd (ae .eql (ac (ab y2 0)) (ac (ab y2 0)))<|gd x7<|gd x8<|ge (.int pn0)<|ge pd1<|ge (.int pn2)<|ge pd3<|ge pd4<|ge pd5<|ge (.int pn6)<|ge (.int pn7)<|some (Sum.inl [.int (aM .add .i64 sn0 1),ab y1 0,ab y1 1,ab y2 0,ab y2 1,ab y1 4,ab y1 5,.int (ah (ab y1 6))])else gd x1<|gd x2<|gd x3<|gd x4<|ge (.int pn0)<|ge pd1<|ge (.int pn2)<|ge pd3<|ge pd4<|ge pd5<|ge (.int pn6)<|ge (.int pn7)<|some (Sum.inr [.int 0,sd1,sd2,sd3,sd4,sd5,sd6,.int sn7]):=by kernel_rfl
def uu:=by have h:= @OD;simp only[aE,gd,aj,ai,ak,au,ar,aD,ap]at h;exact h
def vV (Q:uAC):List D->uAC:=veil fun p s=>loW (qx Q p) s
theorem AT (Q:uAC):vV Q=fun p s=>loW (qx Q p) s:=am _
def sI (Q:uAC):Tb:=Tb.addL (AS Q) 173 13 S173_13.n0 (bL S173_13 (vV Q))
theorem Gn (Q:uAC) (hQ:aH env.P 117 sH Q):TbOk env (sI Q):=aG (KN Q hQ) 173 13 (by kernel_rfl) _ (AT Q)
def S173:FunS:=⟨[utP 0 0,utD 187],[(.lst true 106),(.lst true 106),(.mp true 9 106),(.mp true 106 3),(.lst true 106),(.lst true 46),(.cells [ufO 1 46,ufO 2 106,ufS (.map 3),ufS (.map 4),utI,ufR 9,ufR 9,ufS (.int .u32),ufI,ufO 5 106,ufO 6 106])],[utS (.tup [])],[(.lst true 106),(.lst true 106),(.lst true 106),(.lst true 46), .skip, .skip,(.mp true 9 106),(.mp true 106 3), .skip, .skip,(.cells [utO 7 46,utO 8 106,utS (.map 3),utS (.map 4),utI,ufR 9,ufR 9,ufS (.int .u32),ufI,utO 9 106,utO 10 106])]⟩
def F173 (Q:uAC):uAC:=aN env (sI Q) 60 12 173 S173
theorem F173_e (Q:uAC) (pd0:D) (pd1:D) (pn2:Int) (pn3:Int) (sd0:D) (sd1:D) (sd2:D) (sd3:D) (sd4:D) (sd5:D) (sd6:D) (sn7:Int):F173 Q [pd0,pd1,(D.int pn2),(D.int pn3),sd0,sd1,sd2,sd3,sd4,sd5,sd6,(D.int sn7)] =
 let y0:=q42 [sd1,sd2,sd3,sd4,(.int sn7),pd0,pd1,(.int pn2),(.int pn3),(ax (aa sd0 3) 0),sd5,sd6]
 let y1:=Gm Q [(.int (ac (aa sd0 6))),sd0,sd1,sd2,sd3,sd4,pd0,pd1,(.int pn2),(.int pn3)] [(.int 0),(.list []),(ab y0 0),(ab y0 1),(.int sn7)]
 let y2:=q50 [sd1,sd2,sd3,sd4,(.int (ah (ab y1 4))),pd0,pd1,(.int pn2),(.int pn3),(.list [(.agg [(.int 0),(.int 4294967295),(.int 5),(.int 2),(.int 0),(.int 0),(.int 0),(.int 0),(.int 0)]),(.agg [(.int 0),(.int 0),(.int 21),(.int 0),(.int 0),(.int 0),(.int 0),(.int 0),(.int 0)])]),(ab y1 2),(ab y1 3)]
 let y3:=q49 [sd1,sd2,sd3,sd4,(ab y2 0),(ab y2 1),pd0,pd1,(.int pn2),(.int pn3),(.int (ah (ab y1 4)))]
 let y4:=vV Q [(.int (ah (ab y3 0))),(aa sd0 6),(.int (ac (aa sd0 6))),(ab y1 1),pd0,pd1,(.int pn2),(.int pn3)] [(.int 0),sd1,sd2,(ab y2 0),(ab y2 1),sd3,sd4,(.int (ah (ab y3 1)))]
 let y5:=q57 [(ab y4 1),(ab y4 2),(ab y4 5),(ab y4 3),(ab y4 4),(.int (ah (ab y4 7))),pd0,pd1,(.int pn2),(.int pn3),(.int (ah (ab y3 0))),(ab y4 6)]
 let x0:=ae .eql (ac sd2) (ac sd2)
 let x1:=ae .eql (ac sd1) (ac sd1)
 let x2:=ac (ab y0 1)
 let x3:=ac (ab y0 0)
 let x4:=ac (ab y1 3)
 let x5:=ac (ab y1 2)
 let x6:=ac (ab y2 1)
 let x7:=ae .eql x6 x6
 let x8:=ac (ab y2 0)
 let x9:=ae .eql x8 x8
 let x10:=ac (ab y1 1)
 let x11:=ae .eql (ac (ab y4 4)) (ac (ab y4 4))
 let x12:=ae .eql (ac (ab y4 3)) (ac (ab y4 3))
 let x13:=ae .eql (ac (ab y4 2)) (ac (ab y4 2))
 let x14:=ae .eql (ac (ab y4 1)) (ac (ab y4 1))
 gd (aS (aa sd0 3) 0)<|gd (ae .eql (ac sd6) (ac sd6))<|gd (ae .eql (ac sd5) (ac sd5))<|gd x0<|gd x1<|gd (ao y0)<|gd (ae .eql 0 (ac (.list [])))<|gd (ae .eql x2 x2)<|gd (ae .eql x3 x3)<|gd x0<|gd x1<|gd (ao y1)<|gd (ae .eql x4 x4)<|gd (ae .eql x5 x5)<|gd x0<|gd x1<|gd (ao y2)<|gd x7<|gd x9<|gd x0<|gd x1<|gd (ao y3)<|gd (ae .eql x10 x10)<|gd x7<|gd x9<|gd x0<|gd x1<|gd (ao y4)<|gd x11<|gd x12<|gd x13<|gd x14<|gd (ao y5)<|gd x11<|gd x12<|gd x13<|gd x14<|ge pd0<|ge pd1<|ge (.int pn2)<|ge (.int pn3)<|some [ab y4 1,ab y4 2,ab y4 3,ab y4 4,ab y4 5,ab y5 0,.int (ah (ab y4 7))]:=by kernel_rfl
def F173_eq:=by have h:= @F173_e;simp only[aE,gd,aj,ai,ak,au,ar,aD,ap]at h;exact h
def q173 (Q:uAC):uAC:=veil (F173 Q)
theorem Rz (Q:uAC):q173 Q=F173 Q:=am _
def tb173 (Q:uAC):Tb:=Tb.addF (sI Q) 173 S173 (q173 Q)
theorem ok_tb173 (Q:uAC) (hQ:aH env.P 117 sH Q):TbOk env (tb173 Q):=aI (Gn Q hQ) 173 (by kernel_rfl) _ (Rz Q)
def eU (Q:uAC):uAC:=aN env (tb173 Q) 60 12 117 sH
theorem Fb117_e (Q:uAC) (pd0:D) (pd1:D) (pn2:Int) (pn3:Int) (sd0:D) (sd1:D) (sd2:D) (sd3:D) (sd4:D) (sd5:D) (sd6:D) (sn7:Int):eU Q [pd0,pd1,(D.int pn2),(D.int pn3),sd0,sd1,sd2,sd3,sd4,sd5,sd6,(D.int sn7)] =
 let y0:=q42 [sd1,sd2,sd3,sd4,(.int sn7),pd0,pd1,(.int pn2),(.int pn3),(ax (aa sd0 3) 0),sd5,sd6]
 let y1:=q59 [sd1,sd2,sd3,sd4,(.int sn7),pd0,pd1,(.int pn2),(.int pn3),(.str (aC (aa sd0 2))),(ab y0 0),(ab y0 1)]
 let y2:=q50 [sd1,sd2,sd3,sd4,(.int sn7),pd0,pd1,(.int pn2),(.int pn3),(.list [(.agg [(.int 0),(.int 0),(.int 3),(.int 0),(.int 0),(.int 0),(.int 0),(.int 0),(.int 0)])]),(ab y0 0),(ab y0 1)]
 let y3:=q42 [sd1,sd2,sd3,sd4,(.int sn7),pd0,pd1,(.int pn2),(.int pn3),(ax (aa sd0 3) 1),(ab y2 0),(ab y2 1)]
 let y4:=q50 [sd1,sd2,sd3,sd4,(.int sn7),pd0,pd1,(.int pn2),(.int pn3),(.list [(.agg [(.int 0),(.int 0),(.int 4),(.int 0),(.int 0),(.int 0),(.int 2),(.int 0),(.int 0)]),(.agg [(.int 0),(.int 0),(.int 18),(.int 0),(.int (ah (aa sd0 1))),(.int 0),(.int 0),(.int 2),(.int 0)])]),(ab y3 0),(ab y3 1)]
 let y5:=q50 [sd1,sd2,sd3,sd4,(.int sn7),pd0,pd1,(.int pn2),(.int pn3),(.list [(.agg [(.int 0),(.int 0),(.int 26),(.int 0),(.int 0),(.int 0),(.int 0),(.int 0),(.int 0)])]),sd5,sd6]
 let y6:=q59 [sd1,sd2,sd3,sd4,(.int sn7),pd0,pd1,(.int pn2),(.int pn3),(.str (aC (aa sd0 2))),(ab y5 0),(ab y5 1)]
 let y7:=q50 [sd1,sd2,sd3,sd4,(.int sn7),pd0,pd1,(.int pn2),(.int pn3),(.list [(.agg [(.int 0),(.int 0),(.int 27),(.int 0),(.int 0),(.int 0),(.int 0),(.int 0),(.int 0)])]),(ab y0 0),(ab y0 1)]
 let y8:=Uo [sd1,sd2,sd3,sd4,sd5,(.int sn7),pd0,pd1,(.int pn2),(.int pn3),(.list [(.agg [(.int 0),(.int 0),(.int 23),(.int 0),(.int 0),(.int 0),(.int 0),(.int 0),(.int 0)])]),sd6]
 let y9:=BU [pd1,(.str (aC (aa sd0 2)))]
 let y10:=Kj [sd1,sd2,sd3,sd4,(ab y8 0),(.int sn7),pd0,pd1,(.int pn2),(.int pn3),(.list [(.int (aM .sub .i64 (-2) (ah (ab y9 0))))]),sd5]
 let y11:=q171 Q [pd0,pd1,(.int pn2),(.int pn3),sd0,sd1,sd2,sd3,sd4,sd5,sd6,(.int sn7)]
 let y12:=ae .eql (ac (ab y11 1)) (ac (dA (ab y11 1) 0 (ac (ab y11 1))))
 let y13:=ae .eql (ac (ab y11 0)) (ac (dA (ab y11 0) 0 (ac (ab y11 0))))
 let y14:=az (ae .eql (ah (aa sd0 0)) 7) (ae .eql (ah (aa sd0 0)) 7) (ae .eql (ah (aa sd0 0)) 8)
 let y15:=q172 Q [pd0,pd1,(.int pn2),(.int pn3),sd0,sd1,sd2,sd3,sd4,sd5,sd6,(.int sn7)]
 let y16:=ae .eql (ac (ab y15 1)) (ac (dA (ab y15 1) 0 (ac (ab y15 1))))
 let y17:=ae .eql (ac (ab y15 0)) (ac (dA (ab y15 0) 0 (ac (ab y15 0))))
 let y18:=q173 Q [pd0,pd1,(.int pn2),(.int pn3),sd0,sd1,sd2,sd3,sd4,sd5,sd6,(.int sn7)]
 let y19:=ae .eql (ac (ab y18 1)) (ac (dA (ab y18 1) 0 (ac (ab y18 1))))
 let y20:=ae .eql (ac (ab y18 0)) (ac (dA (ab y18 0) 0 (ac (ab y18 0))))
 let y21:=ae .lss (aM .sub .i64 (ac sd1) 1) (ac sd1)
 let y22:=AB [sd1,sd2,sd3,sd4,(.int sn7),pd0,pd1,(.int pn2),(.int pn3),(.int 0),(.int (ah (ax sd1 (aM .sub .i64 (ac sd1) 1)))),sd5,sd6]
 let y23:=cz (ae .eql (ac sd2) (ac sd2)) (ae .eql (ac sd1) (ac sd1))
 let y24:=cz (ae .eql pn2 pn2) (cz (ae .eql pn3 pn3) y23)
 let y25:=cz (ae .eql sn7 sn7) (cz (f8 pd0 pd0) (cz (f8 pd1 pd1) y24))
 let y26:=cz (ae .eql (ac sd6) (ac sd6)) (cz (ae .eql (ac sd5) (ac sd5)) y25)
 let y27:=ae .lss (aM .sub .i64 (ac sd2) 1) (ac sd2)
 let y28:=AB [sd1,sd2,sd3,sd4,(.int sn7),pd0,pd1,(.int pn2),(.int pn3),(.int 0),(.int (ah (ax sd2 (aM .sub .i64 (ac sd2) 1)))),sd5,sd6]
 let y29:=Z7 [sd1,sd2,sd4,sd5,sd6,pd0,pd1,(.int pn2),(.int pn3),(.str (aC (aa sd0 2))),sd3,(.int sn7)]
 let y30:=AB [sd1,sd2,(ab y29 1),sd4,(.int (ah (ab y29 2))),pd0,pd1,(.int pn2),(.int pn3),(.int 0),(.int (ah (ab y29 0))),sd5,sd6]
 let y31:=q57 [sd1,sd2,(ab y29 1),sd5,sd6,(.int (ah (ab y29 2))),pd0,pd1,(.int pn2),(.int pn3),(.int (ah (ab y29 0))),sd4]
 let y32:=AB [sd1,sd2,sd3,sd4,(.int sn7),pd0,pd1,(.int pn2),(.int pn3),(.int 0),(.int pn3),sd5,sd6]
 let y33:=q50 [sd1,sd2,sd3,sd4,(.int sn7),pd0,pd1,(.int pn2),(.int pn3),(.list [(.agg [(.int 0),(.int 0),(.int 1),(.int 0),(.int 0),(.int 0),(.int 0),(.int 0),(.int 0)])]),sd5,sd6]
 let x0:=ah (aa sd0 0)
 let x1:=aS (aa sd0 3) 0
 let x2:=ae .eql (ac sd6) (ac sd6)
 let x3:=ae .eql (ac sd5) (ac sd5)
 let x4:=ac sd2
 let x5:=ae .eql x4 x4
 let x6:=ac sd1
 let x7:=ae .eql x6 x6
 let x8:=ao y0
 let x9:=ac (ab y0 1)
 let x10:=ae .eql x9 x9
 let x11:=ac (ab y0 0)
 let x12:=ae .eql x11 x11
 let x13:=dA sd2 0 x4
 let x14:=ae .eql x4 (ac x13)
 let x15:=dA sd1 0 x6
 let x16:=ae .eql x6 (ac x15)
 let x17:=D.int pn2
 let x18:=D.int pn3
 let x19:=D.int sn7
 let x20:=ac (ab y2 1)
 let x21:=ac (ab y2 0)
 let x22:=ac (ab y3 1)
 let x23:=ac (ab y3 0)
 let x24:=ac (ab y5 1)
 let x25:=ac (ab y5 0)
 let x26:=ae .eql (ac (ab y8 0)) (ac (ab y8 0))
 let x27:=aM .sub .i64 x6 1
 let x28:=aM .sub .i64 x4 1
 let x29:=D.int (ah (ab y29 2))
 bif ae .eql x0 1 then gd x1<|gd x2<|gd x3<|gd x5<|gd x7<|gd x8<|gd x10<|gd x12<|gd x5<|gd x7<|gd (ao y1)<|gd (ae .eql (ac (ab y1 1)) (ac (ab y1 1)))<|gd (ae .eql (ac (ab y1 0)) (ac (ab y1 0)))<|gd x14<|gd x16<|ge pd0<|ge pd1<|ge x17<|ge x18<|some [x15,x13,ab y1 0,ab y1 1,sd3,sd4,x19]else bif ae .eql x0 2 then gd x1<|gd x2<|gd x3<|gd x5<|gd x7<|gd x8<|gd x10<|gd x12<|gd x5<|gd x7<|gd (ao y2)<|gd (aS (aa sd0 3) 1)<|gd (ae .eql x20 x20)<|gd (ae .eql x21 x21)<|gd x5<|gd x7<|gd (ao y3)<|gd (ae .eql x22 x22)<|gd (ae .eql x23 x23)<|gd x5<|gd x7<|gd (ao y4)<|gd (ae .eql (ac (ab y4 1)) (ac (ab y4 1)))<|gd (ae .eql (ac (ab y4 0)) (ac (ab y4 0)))<|gd x14<|gd x16<|ge pd0<|ge pd1<|ge x17<|ge x18<|some [x15,x13,ab y4 0,ab y4 1,sd3,sd4,x19]else bif ae .eql x0 3 then gd x2<|gd x3<|gd x5<|gd x7<|gd (ao y5)<|gd (ae .eql x24 x24)<|gd (ae .eql x25 x25)<|gd x5<|gd x7<|gd (ao y6)<|gd (ae .eql (ac (ab y6 1)) (ac (ab y6 1)))<|gd (ae .eql (ac (ab y6 0)) (ac (ab y6 0)))<|gd x14<|gd x16<|ge pd0<|ge pd1<|ge x17<|ge x18<|some [x15,x13,ab y6 0,ab y6 1,sd3,sd4,x19]else bif ae .eql x0 4 then gd x1<|gd x2<|gd x3<|gd x5<|gd x7<|gd x8<|gd x10<|gd x12<|gd x5<|gd x7<|gd (ao y7)<|gd (ae .eql (ac (ab y7 1)) (ac (ab y7 1)))<|gd (ae .eql (ac (ab y7 0)) (ac (ab y7 0)))<|gd x14<|gd x16<|ge pd0<|ge pd1<|ge x17<|ge x18<|some [x15,x13,ab y7 0,ab y7 1,sd3,sd4,x19]else bif ae .eql x0 5 then gd x2<|gd x3<|gd x5<|gd x7<|gd (ao y8)<|gd (ao y9)<|gd x26<|gd x3<|gd x5<|gd x7<|gd (ao y10)<|gd x26<|gd (ae .eql (ac (ab y10 0)) (ac (ab y10 0)))<|gd x14<|gd x16<|ge pd0<|ge pd1<|ge x17<|ge x18<|some [x15,x13,ab y10 0,ab y8 0,sd3,sd4,x19]else bif ae .eql x0 6 then gd x2<|gd x3<|gd x5<|gd x7<|gd (ao y11)<|gd (ae .eql (ac (ab y11 3)) (ac (ab y11 3)))<|gd (ae .eql (ac (ab y11 2)) (ac (ab y11 2)))<|gd y12<|gd y13<|ge pd0<|ge pd1<|ge x17<|ge x18<|some [dA (ab y11 0) 0 (ac (ab y11 0)),dA (ab y11 1) 0 (ac (ab y11 1)),ab y11 2,ab y11 3,ab y11 4,ab y11 5,.int (ah (ab y11 6))]else bif y14 then gd x2<|gd x3<|gd x5<|gd x7<|gd (ao y15)<|gd (ae .eql (ac (ab y15 3)) (ac (ab y15 3)))<|gd (ae .eql (ac (ab y15 2)) (ac (ab y15 2)))<|gd y16<|gd y17<|ge pd0<|ge pd1<|ge x17<|ge x18<|some [dA (ab y15 0) 0 (ac (ab y15 0)),dA (ab y15 1) 0 (ac (ab y15 1)),ab y15 2,ab y15 3,ab y15 4,ab y15 5,.int (ah (ab y15 6))]else bif ae .eql x0 9 then gd x2<|gd x3<|gd x5<|gd x7<|gd (ao y18)<|gd (ae .eql (ac (ab y18 3)) (ac (ab y18 3)))<|gd (ae .eql (ac (ab y18 2)) (ac (ab y18 2)))<|gd y19<|gd y20<|ge pd0<|ge pd1<|ge x17<|ge x18<|some [dA (ab y18 0) 0 (ac (ab y18 0)),dA (ab y18 1) 0 (ac (ab y18 1)),ab y18 2,ab y18 3,ab y18 4,ab y18 5,.int (ah (ab y18 6))]else bif ae .eql x0 10 then gd (ae .leq 0 x27)<|gd y21<|gd (aS sd1 x27)<|gd x2<|gd x3<|gd x5<|gd x7<|gd (ao y22)<|gd y26<|gd (ae .eql (ac (ab y22 1)) (ac (ab y22 1)))<|gd (ae .eql (ac (ab y22 0)) (ac (ab y22 0)))<|gd x14<|gd x16<|ge pd0<|ge pd1<|ge x17<|ge x18<|some [x15,x13,ab y22 0,ab y22 1,sd3,sd4,x19]else bif ae .eql x0 11 then gd (ae .leq 0 x28)<|gd y27<|gd (aS sd2 x28)<|gd x2<|gd x3<|gd x5<|gd x7<|gd (ao y28)<|gd y26<|gd (ae .eql (ac (ab y28 1)) (ac (ab y28 1)))<|gd (ae .eql (ac (ab y28 0)) (ac (ab y28 0)))<|gd x14<|gd x16<|ge pd0<|ge pd1<|ge x17<|ge x18<|some [x15,x13,ab y28 0,ab y28 1,sd3,sd4,x19]else bif ae .eql x0 12 then gd x2<|gd x3<|gd x5<|gd x7<|gd (ao y29)<|gd x2<|gd x3<|gd x5<|gd x7<|gd (ao y30)<|gd (ae .eql (ac (ab y30 1)) (ac (ab y30 1)))<|gd (ae .eql (ac (ab y30 0)) (ac (ab y30 0)))<|gd x14<|gd x16<|ge pd0<|ge pd1<|ge x17<|ge x18<|some [x15,x13,ab y30 0,ab y30 1,ab y29 1,sd4,x29]else bif ae .eql x0 13 then gd x2<|gd x3<|gd x5<|gd x7<|gd (ao y29)<|gd x2<|gd x3<|gd x5<|gd x7<|gd (ao y31)<|gd x2<|gd x3<|gd x14<|gd x16<|ge pd0<|ge pd1<|ge x17<|ge x18<|some [x15,x13,sd5,sd6,ab y29 1,ab y31 0,x29]else bif ae .eql x0 14 then gd x2<|gd x3<|gd x5<|gd x7<|gd (ao y32)<|gd (ae .eql (ac (ab y32 1)) (ac (ab y32 1)))<|gd (ae .eql (ac (ab y32 0)) (ac (ab y32 0)))<|gd x14<|gd x16<|ge pd0<|ge pd1<|ge x17<|ge x18<|some [x15,x13,ab y32 0,ab y32 1,sd3,sd4,x19]else bif ae .eql x0 15 then gd x2<|gd x3<|gd x5<|gd x7<|gd (ao y33)<|gd (ae .eql (ac (ab y33 1)) (ac (ab y33 1)))<|gd (ae .eql (ac (ab y33 0)) (ac (ab y33 0)))<|gd x14<|gd x16<|ge pd0<|ge pd1<|ge x17<|ge x18<|some [x15,x13,ab y33 0,ab y33 1,sd3,sd4,x19]else gd x2<|gd x3<|gd x14<|gd x16<|ge pd0<|ge pd1<|ge x17<|ge x18<|some [x15,x13,sd5,sd6,sd3,sd4,x19]:=by kernel_rfl
def cJ:=by have h:= @Fb117_e;simp only[aE,gd,aj,ai,ak,au,ar,aD,ap]at h;exact h
def KP:Nat->uAC:=levels eU
theorem F117_s (n:Nat):KP (n+1)=eU (KP n):=rfl
def OE:uAC:=veil fun ds=>KP (aW ds) ds
theorem RA:OE=fun ds=>KP (aW ds) ds:=am _
theorem sound117:aH env.P 117 sH OE:=gj (fun q=>tb173 q) (fun q hq=>ok_tb173 q hq) RA
def tb117:Tb:=Tb.addF Z8 117 sH OE
theorem ok_tb117:TbOk env tb117:=TbOk.addF Km (by kernel_rfl) sound117
def S62:FunS:=⟨[utP 0 0],[(.lst false 288),(.lst true 3),(.lst false 3),(.lst false 46),(.cells [ufO 1 46,ufO 2 3,ufO 3 3,ufO 4 288,ufR 9,ufR 9,ufS (.int .u32),ufI])],[utI],[(.lst true 3),(.lst false 288), .skip,(.lst false 3),(.lst false 46),(.cells [utO 1 46,utO 2 3,utO 5 3,utO 4 288,ufR 9,ufR 9,ufS (.int .u32),ufI])]⟩
def F62:uAC:=aN env tb117 60 12 62 S62
theorem F62_e (pd0:D) (pd1:D) (pd2:D) (pd3:D) (pd4:D) (pn5:Int) (pn6:Int) (sd0:D):F62 [pd0,pd1,pd2,pd3,pd4,(D.int pn5),(D.int pn6),sd0] =
 let y0:=ae .eql (ac (bt sd0 (.list [(.int 0)]))) (ac (bt sd0 (.list [(.int 0)])))
 let y1:=aM .sub .i64 (ac (bt sd0 (.list [(.int 0)]))) 1
 let x0:=bt sd0 (.list [.int 0])
 gd (ae .eql (ac sd0) (ac sd0))<|gd (ci (ac x0) 8)<|gd (ae .eql (ac pd2) (ac pd2))<|gd (ae .eql (ac pd1) (ac pd1))<|gd y0<|gd (ae .eql (ac pd0) (ac pd0))<|ge pd0<|ge pd1<|ge pd2<|ge pd3<|ge pd4<|ge (.int pn5)<|ge (.int pn6)<|some [.int y1,x0]:=by kernel_rfl
def F62_eq:=by have h:= @F62_e;simp only[aE,gd,aj,ai,ak,au,ar,aD,ap]at h;exact h
def q62:uAC:=veil (F62)
theorem q62_eq:q62=F62:=am _
def tb62:Tb:=Tb.addF tb117 62 S62 (q62)
theorem ok_tb62:TbOk env (tb62):=aI ok_tb117 62 (by kernel_rfl) _ (q62_eq)
def S64:FunS:=⟨[utP 0 0,utD 46],[(.lst false 288),(.lst false 3),(.lst true 3),(.lst true 46),(.cells [ufO 1 46,ufO 2 3,ufO 3 3,ufO 4 288,ufR 9,ufR 9,ufS (.int .u32),ufI])],[utS (.tup [])],[(.lst true 3),(.lst true 46),(.lst false 288),(.lst false 3), .skip, .skip,(.cells [utO 5 46,utO 6 3,utO 3 3,utO 4 288,ufR 9,ufR 9,ufS (.int .u32),ufI])]⟩
def F64:uAC:=aN env tb62 60 12 64 S64
theorem F64_e (pd0:D) (pd1:D) (pd2:D) (pd3:D) (pn4:Int) (pn5:Int) (sd0:D) (sd1:D) (sd2:D):F64 [pd0,pd1,pd2,pd3,(D.int pn4),(D.int pn5),sd0,sd1,sd2] =
 let y0:=bt sd2 (.list [(.agg [(.int (ah (aa sd0 0))),(.int (ah (aa sd0 1))),(.int (ah (aa sd0 2))),(.int (ah (aa sd0 3))),(.int (ah (aa sd0 4))),(.int (ah (aa sd0 5))),(.int (ah (aa sd0 6))),(.int (ah (aa sd0 7))),(.int (ah (aa sd0 8)))])])
 let y1:=ae .eql (ac (bt sd1 (.list [(.int (-1))]))) (ac (bt sd1 (.list [(.int (-1))])))
 let x0:=ac y0
 let x1:=bt sd1 (.list [.int (-1)])
 gd (ae .eql (ac sd2) (ac sd2))<|gd (ci x0 64)<|gd (ae .eql (ac sd1) (ac sd1))<|gd (ci (ac x1) 8)<|gd (ae .eql x0 x0)<|gd y1<|gd (ae .eql (ac pd1) (ac pd1))<|gd (ae .eql (ac pd0) (ac pd0))<|ge pd0<|ge pd1<|ge pd2<|ge pd3<|ge (.int pn4)<|ge (.int pn5)<|some [x1,y0]:=by kernel_rfl
def F64_eq:=by have h:= @F64_e;simp only[aE,gd,aj,ai,ak,au,ar,aD,ap]at h;exact h
def q64:uAC:=veil (F64)
theorem q64_eq:q64=F64:=am _
def tb64:Tb:=Tb.addF tb62 64 S64 (q64)
theorem ok_tb64:TbOk env (tb64):=aI ok_tb62 64 (by kernel_rfl) _ (q64_eq)
def S63:FunS:=⟨[utP 0 0,⟨true, .str⟩],[(.lst false 288),(.lst false 3),(.lst true 3),(.lst true 46),(.cells [ufO 1 46,ufO 2 3,ufO 3 3,ufO 4 288,ufR 9,ufR 9,ufS (.int .u32),ufI])],[utS (.tup [])],[(.lst true 3),(.lst true 46),(.lst false 288),(.lst false 3), .skip, .skip,(.cells [utO 5 46,utO 6 3,utO 3 3,utO 4 288,ufR 9,ufR 9,ufS (.int .u32),ufI])]⟩
def F63:uAC:=aN env tb64 60 12 63 S63
theorem F63_e (pd0:D) (pd1:D) (pd2:D) (pd3:D) (pn4:Int) (pn5:Int) (ss0:ByteArray) (sd1:D) (sd2:D):F63 [pd0,pd1,pd2,pd3,(D.int pn4),(D.int pn5),(D.str ss0),sd1,sd2] =
 let y0:=ao (Ke [pd2,(.str ss0)])
 let y1:=ab (Ke [pd2,(.str ss0)]) 0
 let y2:=aM .add .u32 pn4 (aM .mul .u32 4 (fz .u32 (ah y1)))
 let y3:=q64 [pd0,pd1,pd2,pd3,(.int pn4),(.int pn5),(.agg [(.int 0),(.int y2),(.int 5),(.int 2),(.int 0),(.int 0),(.int 2),(.int 0),(.int 0)]),sd1,sd2]
 let x0:=ae .eql (ac pd1) (ac pd1)
 let x1:=ae .eql (ac pd0) (ac pd0)
 gd y0<|gd (ae .eql (ac sd2) (ac sd2))<|gd (ae .eql (ac sd1) (ac sd1))<|gd x0<|gd x1<|gd (ao y3)<|gd (ae .eql (ac (ab y3 1)) (ac (ab y3 1)))<|gd (ae .eql (ac (ab y3 0)) (ac (ab y3 0)))<|gd x0<|gd x1<|ge pd0<|ge pd1<|ge pd2<|ge pd3<|ge (.int pn4)<|ge (.int pn5)<|some [ab y3 0,ab y3 1]:=by kernel_rfl
def OF:=by have h:= @F63_e;simp only[aE,gd,aj,ai,ak,au,ar,aD,ap]at h;exact h
def q63:uAC:=veil (F63)
theorem Gp:q63=F63:=am _
def tb63:Tb:=Tb.addF tb64 63 S63 (q63)
theorem ok_tb63:TbOk env (tb63):=aI ok_tb64 63 (by kernel_rfl) _ (Gp)
def S67:FunS:=⟨[utP 0 0,utI],[(.lst false 288),(.lst true 3),(.lst false 3),(.lst false 46),(.cells [ufO 1 46,ufO 2 3,ufO 3 3,ufO 4 288,ufR 9,ufR 9,ufS (.int .u32),ufI])],[utS (.tup [])],[(.lst true 3),(.lst false 288), .skip,(.lst false 3),(.lst false 46),(.cells [utO 1 46,utO 2 3,utO 5 3,utO 4 288,ufR 9,ufR 9,ufS (.int .u32),ufI])]⟩
def F67:uAC:=aN env tb63 60 12 67 S67
theorem F67_e (pd0:D) (pd1:D) (pd2:D) (pd3:D) (pd4:D) (pn5:Int) (pn6:Int) (sn0:Int) (sd1:D):F67 [pd0,pd1,pd2,pd3,pd4,(D.int pn5),(D.int pn6),(D.int sn0),sd1] =
 let y0:=ae .eql (ac sd1) (ac (Bs sd1 sn0 (.int (ac pd2))))
 let x0:=ac pd2
 gd (ae .leq 0 sn0)<|gd (ae .lss sn0 (ac sd1))<|gd (aS sd1 sn0)<|gd (ae .eql x0 x0)<|gd (ae .eql (ac pd1) (ac pd1))<|gd y0<|gd (ae .eql (ac pd0) (ac pd0))<|ge pd0<|ge pd1<|ge pd2<|ge pd3<|ge pd4<|ge (.int pn5)<|ge (.int pn6)<|some [Bs sd1 sn0 (.int x0)]:=by kernel_rfl
def F67_eq:=by have h:= @F67_e;simp only[aE,gd,aj,ai,ak,au,ar,aD,ap]at h;exact h
def q67:uAC:=veil (F67)
theorem q67_eq:q67=F67:=am _
def tb67:Tb:=Tb.addF tb63 67 S67 (q67)
theorem ok_tb67:TbOk env (tb67):=aI ok_tb63 67 (by kernel_rfl) _ (q67_eq)
def S184:FunS:=⟨[utP 0 0,utI,utI],[(.lst false 288),(.lst false 3),(.lst true 3),(.lst true 46),(.cells [ufO 1 46,ufO 2 3,ufO 3 3,ufO 4 288,ufR 9,ufR 9,ufS (.int .u32),ufI])],[utS (.tup [])],[(.lst true 3),(.lst true 46),(.lst false 288),(.lst false 3), .skip, .skip,(.cells [utO 5 46,utO 6 3,utO 3 3,utO 4 288,ufR 9,ufR 9,ufS (.int .u32),ufI])]⟩
def F184:uAC:=aN env tb67 60 12 184 S184
theorem F184_e (pd0:D) (pd1:D) (pd2:D) (pd3:D) (pn4:Int) (pn5:Int) (sn0:Int) (sn1:Int) (sd2:D) (sd3:D):F184 [pd0,pd1,pd2,pd3,(D.int pn4),(D.int pn5),(D.int sn0),(D.int sn1),sd2,sd3] =
 let y0:=bt sd3 (.list [(.agg [(.int 0),(.int 0),(.int 20),(.int 2),(.int 0),(.int sn0),(.int 0),(.int 0),(.int 0)])])
 let y1:=ae .eql (ac (bt sd2 (.list [(.int sn1)]))) (ac (bt sd2 (.list [(.int sn1)])))
 let x0:=ac y0
 let x1:=bt sd2 (.list [.int sn1])
 gd (ae .eql (ac sd3) (ac sd3))<|gd (ci x0 64)<|gd (ae .eql (ac sd2) (ac sd2))<|gd (ci (ac x1) 8)<|gd (ae .eql x0 x0)<|gd y1<|gd (ae .eql (ac pd1) (ac pd1))<|gd (ae .eql (ac pd0) (ac pd0))<|ge pd0<|ge pd1<|ge pd2<|ge pd3<|ge (.int pn4)<|ge (.int pn5)<|some [x1,y0]:=by kernel_rfl
def F184_eq:=by have h:= @F184_e;simp only[aE,gd,aj,ai,ak,au,ar,aD,ap]at h;exact h
def qy:uAC:=veil (F184)
theorem RB:qy=F184:=am _
def tb184:Tb:=Tb.addF tb67 184 S184 (qy)
theorem ok_tb184:TbOk env (tb184):=aI ok_tb67 184 (by kernel_rfl) _ (RB)
def S68:FunS:=⟨[utP 0 0,⟨true, .str⟩],[(.lst false 288),(.lst false 3),(.lst true 3),(.lst true 46),(.cells [ufO 1 46,ufO 2 3,ufO 3 3,ufO 4 288,ufR 9,ufR 9,ufS (.int .u32),ufI])],[utS (.tup [])],[(.lst true 3),(.lst true 46),(.lst false 288),(.lst false 3), .skip, .skip,(.cells [utO 5 46,utO 6 3,utO 3 3,utO 4 288,ufR 9,ufR 9,ufS (.int .u32),ufI])]⟩
def F68:uAC:=aN env tb184 60 12 68 S68
theorem F68_e (pd0:D) (pd1:D) (pd2:D) (pd3:D) (pn4:Int) (pn5:Int) (ss0:ByteArray) (sd1:D) (sd2:D):F68 [pd0,pd1,pd2,pd3,(D.int pn4),(D.int pn5),(D.str ss0),sd1,sd2] =
 let y0:=q63 [pd0,pd1,pd2,pd3,(.int pn4),(.int pn5),(.str ss0),sd1,sd2]
 let y1:=q64 [pd0,pd1,pd2,pd3,(.int pn4),(.int pn5),(.agg [(.int 0),(.int 0),(.int 18),(.int 0),(.int 4),(.int 0),(.int 0),(.int 2),(.int 0)]),(ab y0 0),(ab y0 1)]
 let x0:=ae .eql (ac pd1) (ac pd1)
 let x1:=ae .eql (ac pd0) (ac pd0)
 let x2:=ac (ab y0 1)
 let x3:=ac (ab y0 0)
 gd (ae .eql (ac sd2) (ac sd2))<|gd (ae .eql (ac sd1) (ac sd1))<|gd x0<|gd x1<|gd (ao y0)<|gd (ae .eql x2 x2)<|gd (ae .eql x3 x3)<|gd x0<|gd x1<|gd (ao y1)<|gd (ae .eql (ac (ab y1 1)) (ac (ab y1 1)))<|gd (ae .eql (ac (ab y1 0)) (ac (ab y1 0)))<|gd x0<|gd x1<|ge pd0<|ge pd1<|ge pd2<|ge pd3<|ge (.int pn4)<|ge (.int pn5)<|some [ab y1 0,ab y1 1]:=by kernel_rfl
def F68_eq:=by have h:= @F68_e;simp only[aE,gd,aj,ai,ak,au,ar,aD,ap]at h;exact h
def q68:uAC:=veil (F68)
theorem q68_eq:q68=F68:=am _
def tb68:Tb:=Tb.addF tb184 68 S68 (q68)
theorem ok_tb68:TbOk env (tb68):=aI ok_tb184 68 (by kernel_rfl) _ (q68_eq)
def S65:FunS:=⟨[utP 0 0,utI,utI,utS (.int .u32)],[(.lst false 288),(.lst false 3),(.lst true 3),(.lst true 46),(.cells [ufO 1 46,ufO 2 3,ufO 3 3,ufO 4 288,ufR 9,ufR 9,ufS (.int .u32),ufI])],[utS (.tup [])],[(.lst true 3),(.lst true 46),(.lst false 288),(.lst false 3), .skip, .skip,(.cells [utO 5 46,utO 6 3,utO 3 3,utO 4 288,ufR 9,ufR 9,ufS (.int .u32),ufI])]⟩
def F65:uAC:=aN env tb68 60 12 65 S65
theorem F65_e (pd0:D) (pd1:D) (pd2:D) (pd3:D) (pn4:Int) (pn5:Int) (sn0:Int) (sn1:Int) (sn2:Int) (sd3:D) (sd4:D):F65 [pd0,pd1,pd2,pd3,(D.int pn4),(D.int pn5),(D.int sn0),(D.int sn1),(D.int sn2),sd3,sd4] =
 let y0:=q64 [pd0,pd1,pd2,pd3,(.int pn4),(.int pn5),(.agg [(.int 0),(.int sn2),(.int sn0),(.int 1),(.int 0),(.int 0),(.int sn1),(.int 0),(.int 0)]),sd3,sd4]
 let x0:=ae .eql (ac pd1) (ac pd1)
 let x1:=ae .eql (ac pd0) (ac pd0)
 gd (ae .eql (ac sd4) (ac sd4))<|gd (ae .eql (ac sd3) (ac sd3))<|gd x0<|gd x1<|gd (ao y0)<|gd (ae .eql (ac (ab y0 1)) (ac (ab y0 1)))<|gd (ae .eql (ac (ab y0 0)) (ac (ab y0 0)))<|gd x0<|gd x1<|ge pd0<|ge pd1<|ge pd2<|ge pd3<|ge (.int pn4)<|ge (.int pn5)<|some [ab y0 0,ab y0 1]:=by kernel_rfl
def F65_eq:=by have h:= @F65_e;simp only[aE,gd,aj,ai,ak,au,ar,aD,ap]at h;exact h
def q65:uAC:=veil (F65)
theorem q65_eq:q65=F65:=am _
def m6:Tb:=Tb.addF tb68 65 S65 (q65)
theorem RC:TbOk env (m6):=aI ok_tb68 65 (by kernel_rfl) _ (q65_eq)
end
end Go.Proofs.YtiojjmlccehpoaaGreat
open Go Go.AM
namespace Go.Proofs.YtiojjmlccehpoaaGreat
def m7:FunS:=⟨[utP 0 0,utI],[(.lst false 288),(.lst false 3),(.lst true 3),(.lst true 46),(.cells [ufO 1 46,ufO 2 3,ufO 3 3,ufO 4 288,ufR 9,ufR 9,ufS (.int .u32),ufI])],[utS (.tup [])],[(.lst true 3),(.lst true 46),(.lst false 288),(.lst false 3), .skip, .skip,(.cells [utO 5 46,utO 6 3,utO 3 3,utO 4 288,ufR 9,ufR 9,ufS (.int .u32),ufI])]⟩
theorem UJ (pd0:D) (pd1:D) (pd2:D) (pd3:D) (pn4:Int) (pn5:Int) (sn0:Int) (sd1:D) (sd2:D):mM m6 108 m7 1 3 [pd0,pd1,pd2,pd3,(D.int pn4),(D.int pn5)] [(D.int sn0),sd1,sd2] =
 let y0:=q64 [pd0,pd1,pd2,pd3,(.int pn4),(.int pn5),(.agg [(.int 0),(.int 0),(.int 6),(.int 0),(.int 0),(.int 0),(.int 0),(.int 1),(.int 0)]),sd1,sd2]
 let x0:=ae .eql (ac pd1) (ac pd1)
 let x1:=ae .eql (ac pd0) (ac pd0)
 gd (ae .eql (ac sd2) (ac sd2))<|gd (ae .eql (ac sd1) (ac sd1))<|gd x0<|gd x1<|gd (ao y0)<|gd (ae .eql (ac (ab y0 1)) (ac (ab y0 1)))<|gd (ae .eql (ac (ab y0 0)) (ac (ab y0 0)))<|gd x0<|gd x1<|ge pd0<|ge pd1<|ge pd2<|ge pd3<|ge (.int pn4)<|ge (.int pn5)<|some [ab y0 0,ab y0 1]:=by kernel_rfl
def K108_3:=by have h:= @UJ;simp only[aE,gd,aj,ai,ak,au,ar,aD,ap]at h;exact h
theorem UK (pd0:D) (pd1:D) (pd2:D) (pd3:D) (pn4:Int) (pn5:Int) (sn0:Int) (sd1:D) (sd2:D):mM m6 108 m7 1 4 [pd0,pd1,pd2,pd3,(D.int pn4),(D.int pn5)] [(D.int sn0),sd1,sd2] =
 let y0:=q64 [pd0,pd1,pd2,pd3,(.int pn4),(.int pn5),(.agg [(.int 0),(.int 0),(.int 7),(.int 0),(.int 0),(.int 0),(.int 0),(.int 1),(.int 0)]),sd1,sd2]
 let x0:=ae .eql (ac pd1) (ac pd1)
 let x1:=ae .eql (ac pd0) (ac pd0)
 gd (ae .eql (ac sd2) (ac sd2))<|gd (ae .eql (ac sd1) (ac sd1))<|gd x0<|gd x1<|gd (ao y0)<|gd (ae .eql (ac (ab y0 1)) (ac (ab y0 1)))<|gd (ae .eql (ac (ab y0 0)) (ac (ab y0 0)))<|gd x0<|gd x1<|ge pd0<|ge pd1<|ge pd2<|ge pd3<|ge (.int pn4)<|ge (.int pn5)<|some [ab y0 0,ab y0 1]:=by kernel_rfl
def K108_4:=by have h:= @UK;simp only[aE,gd,aj,ai,ak,au,ar,aD,ap]at h;exact h
theorem UL (pd0:D) (pd1:D) (pd2:D) (pd3:D) (pn4:Int) (pn5:Int) (sn0:Int) (sd1:D) (sd2:D):mM m6 108 m7 1 5 [pd0,pd1,pd2,pd3,(D.int pn4),(D.int pn5)] [(D.int sn0),sd1,sd2] =
 let y0:=q64 [pd0,pd1,pd2,pd3,(.int pn4),(.int pn5),(.agg [(.int 0),(.int 0),(.int 11),(.int 0),(.int 0),(.int 0),(.int 0),(.int 1),(.int 0)]),sd1,sd2]
 let x0:=ae .eql (ac pd1) (ac pd1)
 let x1:=ae .eql (ac pd0) (ac pd0)
 gd (ae .eql (ac sd2) (ac sd2))<|gd (ae .eql (ac sd1) (ac sd1))<|gd x0<|gd x1<|gd (ao y0)<|gd (ae .eql (ac (ab y0 1)) (ac (ab y0 1)))<|gd (ae .eql (ac (ab y0 0)) (ac (ab y0 0)))<|gd x0<|gd x1<|ge pd0<|ge pd1<|ge pd2<|ge pd3<|ge (.int pn4)<|ge (.int pn5)<|some [ab y0 0,ab y0 1]:=by kernel_rfl
def K108_5:=by have h:= @UL;simp only[aE,gd,aj,ai,ak,au,ar,aD,ap]at h;exact h
theorem UM (pd0:D) (pd1:D) (pd2:D) (pd3:D) (pn4:Int) (pn5:Int) (sn0:Int) (sd1:D) (sd2:D):mM m6 108 m7 1 6 [pd0,pd1,pd2,pd3,(D.int pn4),(D.int pn5)] [(D.int sn0),sd1,sd2] =
 let y0:=q64 [pd0,pd1,pd2,pd3,(.int pn4),(.int pn5),(.agg [(.int 0),(.int 0),(.int 8),(.int 0),(.int 0),(.int 0),(.int 0),(.int 1),(.int 0)]),sd1,sd2]
 let x0:=ae .eql (ac pd1) (ac pd1)
 let x1:=ae .eql (ac pd0) (ac pd0)
 gd (ae .eql (ac sd2) (ac sd2))<|gd (ae .eql (ac sd1) (ac sd1))<|gd x0<|gd x1<|gd (ao y0)<|gd (ae .eql (ac (ab y0 1)) (ac (ab y0 1)))<|gd (ae .eql (ac (ab y0 0)) (ac (ab y0 0)))<|gd x0<|gd x1<|ge pd0<|ge pd1<|ge pd2<|ge pd3<|ge (.int pn4)<|ge (.int pn5)<|some [ab y0 0,ab y0 1]:=by kernel_rfl
def K108_6:=by have h:= @UM;simp only[aE,gd,aj,ai,ak,au,ar,aD,ap]at h;exact h
theorem UN (pd0:D) (pd1:D) (pd2:D) (pd3:D) (pn4:Int) (pn5:Int) (sn0:Int) (sd1:D) (sd2:D):mM m6 108 m7 1 7 [pd0,pd1,pd2,pd3,(D.int pn4),(D.int pn5)] [(D.int sn0),sd1,sd2] =
 let y0:=q64 [pd0,pd1,pd2,pd3,(.int pn4),(.int pn5),(.agg [(.int 0),(.int 0),(.int 9),(.int 0),(.int 0),(.int 0),(.int 0),(.int 1),(.int 0)]),sd1,sd2]
 let x0:=ae .eql (ac pd1) (ac pd1)
 let x1:=ae .eql (ac pd0) (ac pd0)
 gd (ae .eql (ac sd2) (ac sd2))<|gd (ae .eql (ac sd1) (ac sd1))<|gd x0<|gd x1<|gd (ao y0)<|gd (ae .eql (ac (ab y0 1)) (ac (ab y0 1)))<|gd (ae .eql (ac (ab y0 0)) (ac (ab y0 0)))<|gd x0<|gd x1<|ge pd0<|ge pd1<|ge pd2<|ge pd3<|ge (.int pn4)<|ge (.int pn5)<|some [ab y0 0,ab y0 1]:=by kernel_rfl
def K108_7:=by have h:= @UN;simp only[aE,gd,aj,ai,ak,au,ar,aD,ap]at h;exact h
theorem UO (pd0:D) (pd1:D) (pd2:D) (pd3:D) (pn4:Int) (pn5:Int) (sn0:Int) (sd1:D) (sd2:D):mM m6 108 m7 1 8 [pd0,pd1,pd2,pd3,(D.int pn4),(D.int pn5)] [(D.int sn0),sd1,sd2] =
 let y0:=q64 [pd0,pd1,pd2,pd3,(.int pn4),(.int pn5),(.agg [(.int 0),(.int 0),(.int 10),(.int 0),(.int 0),(.int 0),(.int 0),(.int 1),(.int 0)]),sd1,sd2]
 let x0:=ae .eql (ac pd1) (ac pd1)
 let x1:=ae .eql (ac pd0) (ac pd0)
 gd (ae .eql (ac sd2) (ac sd2))<|gd (ae .eql (ac sd1) (ac sd1))<|gd x0<|gd x1<|gd (ao y0)<|gd (ae .eql (ac (ab y0 1)) (ac (ab y0 1)))<|gd (ae .eql (ac (ab y0 0)) (ac (ab y0 0)))<|gd x0<|gd x1<|ge pd0<|ge pd1<|ge pd2<|ge pd3<|ge (.int pn4)<|ge (.int pn5)<|some [ab y0 0,ab y0 1]:=by kernel_rfl
def K108_8:=by have h:= @UO;simp only[aE,gd,aj,ai,ak,au,ar,aD,ap]at h;exact h
theorem UP (pd0:D) (pd1:D) (pd2:D) (pd3:D) (pn4:Int) (pn5:Int) (sn0:Int) (sd1:D) (sd2:D):mM m6 108 m7 1 9 [pd0,pd1,pd2,pd3,(D.int pn4),(D.int pn5)] [(D.int sn0),sd1,sd2] =
 let y0:=q64 [pd0,pd1,pd2,pd3,(.int pn4),(.int pn5),(.agg [(.int 0),(.int 0),(.int 12),(.int 0),(.int 0),(.int 0),(.int 0),(.int 1),(.int 0)]),sd1,sd2]
 let x0:=ae .eql (ac pd1) (ac pd1)
 let x1:=ae .eql (ac pd0) (ac pd0)
 gd (ae .eql (ac sd2) (ac sd2))<|gd (ae .eql (ac sd1) (ac sd1))<|gd x0<|gd x1<|gd (ao y0)<|gd (ae .eql (ac (ab y0 1)) (ac (ab y0 1)))<|gd (ae .eql (ac (ab y0 0)) (ac (ab y0 0)))<|gd x0<|gd x1<|ge pd0<|ge pd1<|ge pd2<|ge pd3<|ge (.int pn4)<|ge (.int pn5)<|some [ab y0 0,ab y0 1]:=by kernel_rfl
def K108_9:=by have h:= @UP;simp only[aE,gd,aj,ai,ak,au,ar,aD,ap]at h;exact h
theorem OG (pd0:D) (pd1:D) (pd2:D) (pd3:D) (pn4:Int) (pn5:Int) (sn0:Int) (sd1:D) (sd2:D):mM m6 108 m7 1 10 [pd0,pd1,pd2,pd3,(D.int pn4),(D.int pn5)] [(D.int sn0),sd1,sd2] =
 let y0:=q64 [pd0,pd1,pd2,pd3,(.int pn4),(.int pn5),(.agg [(.int 0),(.int 0),(.int 13),(.int 0),(.int 0),(.int 0),(.int 0),(.int 1),(.int 0)]),sd1,sd2]
 let x0:=ae .eql (ac pd1) (ac pd1)
 let x1:=ae .eql (ac pd0) (ac pd0)
 gd (ae .eql (ac sd2) (ac sd2))<|gd (ae .eql (ac sd1) (ac sd1))<|gd x0<|gd x1<|gd (ao y0)<|gd (ae .eql (ac (ab y0 1)) (ac (ab y0 1)))<|gd (ae .eql (ac (ab y0 0)) (ac (ab y0 0)))<|gd x0<|gd x1<|ge pd0<|ge pd1<|ge pd2<|ge pd3<|ge (.int pn4)<|ge (.int pn5)<|some [ab y0 0,ab y0 1]:=by kernel_rfl
def K108_10:=by have h:= @OG;simp only[aE,gd,aj,ai,ak,au,ar,aD,ap]at h;exact h
theorem OH (pd0:D) (pd1:D) (pd2:D) (pd3:D) (pn4:Int) (pn5:Int) (sn0:Int) (sd1:D) (sd2:D):mM m6 108 m7 1 11 [pd0,pd1,pd2,pd3,(D.int pn4),(D.int pn5)] [(D.int sn0),sd1,sd2] =
 let y0:=q64 [pd0,pd1,pd2,pd3,(.int pn4),(.int pn5),(.agg [(.int 0),(.int 0),(.int 14),(.int 0),(.int 0),(.int 0),(.int 0),(.int 1),(.int 0)]),sd1,sd2]
 let x0:=ae .eql (ac pd1) (ac pd1)
 let x1:=ae .eql (ac pd0) (ac pd0)
 gd (ae .eql (ac sd2) (ac sd2))<|gd (ae .eql (ac sd1) (ac sd1))<|gd x0<|gd x1<|gd (ao y0)<|gd (ae .eql (ac (ab y0 1)) (ac (ab y0 1)))<|gd (ae .eql (ac (ab y0 0)) (ac (ab y0 0)))<|gd x0<|gd x1<|ge pd0<|ge pd1<|ge pd2<|ge pd3<|ge (.int pn4)<|ge (.int pn5)<|some [ab y0 0,ab y0 1]:=by kernel_rfl
def K108_11:=by have h:= @OH;simp only[aE,gd,aj,ai,ak,au,ar,aD,ap]at h;exact h
theorem OI (pd0:D) (pd1:D) (pd2:D) (pd3:D) (pn4:Int) (pn5:Int) (sn0:Int) (sd1:D) (sd2:D):mM m6 108 m7 1 12 [pd0,pd1,pd2,pd3,(D.int pn4),(D.int pn5)] [(D.int sn0),sd1,sd2] =
 let y0:=q64 [pd0,pd1,pd2,pd3,(.int pn4),(.int pn5),(.agg [(.int 0),(.int 0),(.int 15),(.int 0),(.int 0),(.int 0),(.int 0),(.int 1),(.int 0)]),sd1,sd2]
 let y1:=q64 [pd0,pd1,pd2,pd3,(.int pn4),(.int pn5),(.agg [(.int 0),(.int 0),(.int 25),(.int 0),(.int 0),(.int 1),(.int 0),(.int 0),(.int 0)]),(ab y0 0),(ab y0 1)]
 let x0:=ae .eql (ac pd1) (ac pd1)
 let x1:=ae .eql (ac pd0) (ac pd0)
 let x2:=ac (ab y0 1)
 let x3:=ac (ab y0 0)
 gd (ae .eql (ac sd2) (ac sd2))<|gd (ae .eql (ac sd1) (ac sd1))<|gd x0<|gd x1<|gd (ao y0)<|gd (ae .eql x2 x2)<|gd (ae .eql x3 x3)<|gd x0<|gd x1<|gd (ao y1)<|gd (ae .eql (ac (ab y1 1)) (ac (ab y1 1)))<|gd (ae .eql (ac (ab y1 0)) (ac (ab y1 0)))<|gd x0<|gd x1<|ge pd0<|ge pd1<|ge pd2<|ge pd3<|ge (.int pn4)<|ge (.int pn5)<|some [ab y1 0,ab y1 1]:=by kernel_rfl
def K108_12:=by have h:= @OI;simp only[aE,gd,aj,ai,ak,au,ar,aD,ap]at h;exact h
theorem OJ (pd0:D) (pd1:D) (pd2:D) (pd3:D) (pn4:Int) (pn5:Int) (sn0:Int) (sd1:D) (sd2:D):mM m6 108 m7 1 13 [pd0,pd1,pd2,pd3,(D.int pn4),(D.int pn5)] [(D.int sn0),sd1,sd2] =
 let y0:=q64 [pd0,pd1,pd2,pd3,(.int pn4),(.int pn5),(.agg [(.int 0),(.int 0),(.int 15),(.int 0),(.int 0),(.int 0),(.int 0),(.int 1),(.int 0)]),sd1,sd2]
 let y1:=q64 [pd0,pd1,pd2,pd3,(.int pn4),(.int pn5),(.agg [(.int 0),(.int 0),(.int 25),(.int 0),(.int 0),(.int 2),(.int 0),(.int 0),(.int 0)]),(ab y0 0),(ab y0 1)]
 let x0:=ae .eql (ac pd1) (ac pd1)
 let x1:=ae .eql (ac pd0) (ac pd0)
 let x2:=ac (ab y0 1)
 let x3:=ac (ab y0 0)
 gd (ae .eql (ac sd2) (ac sd2))<|gd (ae .eql (ac sd1) (ac sd1))<|gd x0<|gd x1<|gd (ao y0)<|gd (ae .eql x2 x2)<|gd (ae .eql x3 x3)<|gd x0<|gd x1<|gd (ao y1)<|gd (ae .eql (ac (ab y1 1)) (ac (ab y1 1)))<|gd (ae .eql (ac (ab y1 0)) (ac (ab y1 0)))<|gd x0<|gd x1<|ge pd0<|ge pd1<|ge pd2<|ge pd3<|ge (.int pn4)<|ge (.int pn5)<|some [ab y1 0,ab y1 1]:=by kernel_rfl
def K108_13:=by have h:= @OJ;simp only[aE,gd,aj,ai,ak,au,ar,aD,ap]at h;exact h
theorem OK (pd0:D) (pd1:D) (pd2:D) (pd3:D) (pn4:Int) (pn5:Int) (sn0:Int) (sd1:D) (sd2:D):mM m6 108 m7 1 14 [pd0,pd1,pd2,pd3,(D.int pn4),(D.int pn5)] [(D.int sn0),sd1,sd2] =
 let y0:=q64 [pd0,pd1,pd2,pd3,(.int pn4),(.int pn5),(.agg [(.int 0),(.int 0),(.int 15),(.int 0),(.int 0),(.int 0),(.int 0),(.int 1),(.int 0)]),sd1,sd2]
 let y1:=q64 [pd0,pd1,pd2,pd3,(.int pn4),(.int pn5),(.agg [(.int 0),(.int 0),(.int 25),(.int 0),(.int 0),(.int 3),(.int 0),(.int 0),(.int 0)]),(ab y0 0),(ab y0 1)]
 let x0:=ae .eql (ac pd1) (ac pd1)
 let x1:=ae .eql (ac pd0) (ac pd0)
 let x2:=ac (ab y0 1)
 let x3:=ac (ab y0 0)
 gd (ae .eql (ac sd2) (ac sd2))<|gd (ae .eql (ac sd1) (ac sd1))<|gd x0<|gd x1<|gd (ao y0)<|gd (ae .eql x2 x2)<|gd (ae .eql x3 x3)<|gd x0<|gd x1<|gd (ao y1)<|gd (ae .eql (ac (ab y1 1)) (ac (ab y1 1)))<|gd (ae .eql (ac (ab y1 0)) (ac (ab y1 0)))<|gd x0<|gd x1<|ge pd0<|ge pd1<|ge pd2<|ge pd3<|ge (.int pn4)<|ge (.int pn5)<|some [ab y1 0,ab y1 1]:=by kernel_rfl
def K108_14:=by have h:= @OK;simp only[aE,gd,aj,ai,ak,au,ar,aD,ap]at h;exact h
theorem OL (pd0:D) (pd1:D) (pd2:D) (pd3:D) (pn4:Int) (pn5:Int) (sn0:Int) (sd1:D) (sd2:D):mM m6 108 m7 1 15 [pd0,pd1,pd2,pd3,(D.int pn4),(D.int pn5)] [(D.int sn0),sd1,sd2] =
 let y0:=q64 [pd0,pd1,pd2,pd3,(.int pn4),(.int pn5),(.agg [(.int 0),(.int 0),(.int 15),(.int 0),(.int 0),(.int 0),(.int 0),(.int 1),(.int 0)]),sd1,sd2]
 let y1:=q64 [pd0,pd1,pd2,pd3,(.int pn4),(.int pn5),(.agg [(.int 0),(.int 0),(.int 25),(.int 0),(.int 0),(.int 7),(.int 0),(.int 0),(.int 0)]),(ab y0 0),(ab y0 1)]
 let x0:=ae .eql (ac pd1) (ac pd1)
 let x1:=ae .eql (ac pd0) (ac pd0)
 let x2:=ac (ab y0 1)
 let x3:=ac (ab y0 0)
 gd (ae .eql (ac sd2) (ac sd2))<|gd (ae .eql (ac sd1) (ac sd1))<|gd x0<|gd x1<|gd (ao y0)<|gd (ae .eql x2 x2)<|gd (ae .eql x3 x3)<|gd x0<|gd x1<|gd (ao y1)<|gd (ae .eql (ac (ab y1 1)) (ac (ab y1 1)))<|gd (ae .eql (ac (ab y1 0)) (ac (ab y1 0)))<|gd x0<|gd x1<|ge pd0<|ge pd1<|ge pd2<|ge pd3<|ge (.int pn4)<|ge (.int pn5)<|some [ab y1 0,ab y1 1]:=by kernel_rfl
def K108_15:=by have h:= @OL;simp only[aE,gd,aj,ai,ak,au,ar,aD,ap]at h;exact h
noncomputable def F108:uAC:=yA m6 108 m7 1 0 20
noncomputable def UQ:uAC:=veil F108
theorem RD:UQ=F108:=am _
theorem sound108:aH env.P 108 m7 UQ:=by rw[RD];exact EI RC (fun p s=>by kernel_rfl)
noncomputable def tb108:Tb:=Tb.addF m6 108 m7 UQ
theorem KR:TbOk env tb108:=TbOk.addF RC (by kernel_rfl) sound108
end Go.Proofs.YtiojjmlccehpoaaGreat
open Go Go.AM
namespace Go.Proofs.YtiojjmlccehpoaaGreat
noncomputable section
def S45:FunS:=⟨[utP 0 0,utD 25],[(.lst false 288),(.lst false 3),(.lst true 3),(.lst true 46),(.cells [ufO 1 46,ufO 2 3,ufO 3 3,ufO 4 288,ufR 9,ufR 9,ufS (.int .u32),ufI])],[utS (.tup [])],[(.lst true 3),(.lst true 46),(.lst false 288),(.lst false 3), .skip, .skip,(.cells [utO 5 46,utO 6 3,utO 3 3,utO 4 288,ufR 9,ufR 9,ufS (.int .u32),ufI])]⟩
def tbR45 (Q:uAC):Tb:=Tb.addF tb108 45 S45 Q
theorem ok_tbR45 (Q:uAC) (hQ:aH env.P 45 S45 Q):TbOk env (tbR45 Q):=TbOk.addF KR (by kernel_rfl) hQ
def Fb45 (Q:uAC):uAC:=aN env (tbR45 Q) 60 12 45 S45
theorem Fb45_e (Q:uAC) (pd0:D) (pd1:D) (pd2:D) (pd3:D) (pn4:Int) (pn5:Int) (sd0:D) (sd1:D) (sd2:D):Fb45 Q [pd0,pd1,pd2,pd3,(D.int pn4),(D.int pn5),sd0,sd1,sd2] =
 let y0:=q64 [pd0,pd1,pd2,pd3,(.int pn4),(.int pn5),(.agg [(.int 0),(.int (ah (aa sd0 1))),(.int 5),(.int 2),(.int 0),(.int 0),(.int 0),(.int 0),(.int 0)]),sd1,sd2]
 let y1:=q63 [pd0,pd1,pd2,pd3,(.int pn4),(.int pn5),(.str (aC (aa sd0 2))),sd1,sd2]
 let y2:=q64 [pd0,pd1,pd2,pd3,(.int pn4),(.int pn5),(.agg [(.int 0),(.int 0),(.int 16),(.int 0),(.int 4),(.int 0),(.int 0),(.int 2),(.int 0)]),(ab y1 0),(ab y1 1)]
 let y3:=ao (Q [pd0,pd1,pd2,pd3,(.int pn4),(.int pn5),(ax (aa sd0 4) 0),sd1,sd2])
 let y4:=ab (Q [pd0,pd1,pd2,pd3,(.int pn4),(.int pn5),(ax (aa sd0 4) 0),sd1,sd2]) 1
 let y5:=ab (Q [pd0,pd1,pd2,pd3,(.int pn4),(.int pn5),(ax (aa sd0 4) 0),sd1,sd2]) 0
 let y6:=q65 [pd0,pd1,pd2,pd3,(.int pn4),(.int pn5),(.int 15),(.int 0),(.int 0),y5,y4]
 let y7:=q64 [pd0,pd1,pd2,pd3,(.int pn4),(.int pn5),(.agg [(.int 0),(.int 0),(.int 25),(.int 0),(.int 0),(.int 1),(.int 0),(.int 0),(.int 0)]),(ab y6 0),(ab y6 1)]
 let y8:=q64 [pd0,pd1,pd2,pd3,(.int pn4),(.int pn5),(.agg [(.int 0),(.int 0),(.int 5),(.int 0),(.int 0),(.int 0),(.int 1),(.int 0),(.int 0)]),y5,y4]
 let y9:=q65 [pd0,pd1,pd2,pd3,(.int pn4),(.int pn5),(.int 5),(.int 0),(.int 0),(ab y8 0),(ab y8 1)]
 let y10:=q64 [pd0,pd1,pd2,pd3,(.int pn4),(.int pn5),(.agg [(.int 0),(.int 0),(.int 7),(.int 0),(.int 0),(.int 0),(.int 0),(.int 1),(.int 0)]),(ab y9 0),(ab y9 1)]
 let y11:=q64 [pd0,pd1,pd2,pd3,(.int pn4),(.int pn5),(.agg [(.int 0),(.int 0),(.int 16),(.int 0),(.int (ah (aa sd0 3))),(.int 0),(.int 0),(.int 0),(.int 0)]),y5,y4]
 let y12:=aM .sub .i64 32 (aM .mul .i64 8 (ah (aa sd0 3)))
 let y13:=q65 [pd0,pd1,pd2,pd3,(.int pn4),(.int pn5),(.int 12),(.int 0),(.int (fz .u32 y12)),y5,y4]
 let y14:=q65 [pd0,pd1,pd2,pd3,(.int pn4),(.int pn5),(.int 14),(.int 0),(.int (fz .u32 y12)),(ab y13 0),(ab y13 1)]
 let y15:=q64 [pd0,pd1,pd2,pd3,(.int pn4),(.int pn5),(.agg [(.int 0),(.int 0),(.int 3),(.int 0),(.int 0),(.int 0),(.int 0),(.int 0),(.int 0)]),y5,y4]
 let y16:=ao (Q [pd0,pd1,pd2,pd3,(.int pn4),(.int pn5),(ax (aa sd0 4) 1),(ab y15 0),(ab y15 1)])
 let y17:=ab (Q [pd0,pd1,pd2,pd3,(.int pn4),(.int pn5),(ax (aa sd0 4) 1),(ab y15 0),(ab y15 1)]) 1
 let y18:=ab (Q [pd0,pd1,pd2,pd3,(.int pn4),(.int pn5),(ax (aa sd0 4) 1),(ab y15 0),(ab y15 1)]) 0
 let y19:=q64 [pd0,pd1,pd2,pd3,(.int pn4),(.int pn5),(.agg [(.int 0),(.int 0),(.int 5),(.int 0),(.int 0),(.int 0),(.int 1),(.int 0),(.int 0)]),y18,y17]
 let y20:=q64 [pd0,pd1,pd2,pd3,(.int pn4),(.int pn5),(.agg [(.int 0),(.int 0),(.int 4),(.int 0),(.int 0),(.int 0),(.int 0),(.int 0),(.int 0)]),(ab y19 0),(ab y19 1)]
 let y21:=UQ [pd0,pd1,pd2,pd3,(.int pn4),(.int pn5),(.int (ah (aa sd0 0))),(ab y20 0),(ab y20 1)]
 let x0:=ah (aa sd0 0)
 let x1:=ae .eql (ac sd2) (ac sd2)
 let x2:=ae .eql (ac sd1) (ac sd1)
 let x3:=ae .eql (ac pd1) (ac pd1)
 let x4:=ae .eql (ac pd0) (ac pd0)
 let x5:=D.int pn4
 let x6:=D.int pn5
 let x7:=ac (ab y1 1)
 let x8:=ac (ab y1 0)
 let x9:=ae .eql (ac y4) (ac y4)
 let x10:=ae .eql (ac y5) (ac y5)
 let x11:=ac (ab y6 1)
 let x12:=ac (ab y6 0)
 let x13:=ac (ab y8 1)
 let x14:=ac (ab y8 0)
 let x15:=ac (ab y9 1)
 let x16:=ac (ab y9 0)
 let x17:=ac (ab y13 1)
 let x18:=ac (ab y13 0)
 let x19:=ac (ab y15 1)
 let x20:=ac (ab y15 0)
 let x21:=ac (ab y19 1)
 let x22:=ac (ab y19 0)
 let x23:=ac (ab y20 1)
 let x24:=ac (ab y20 0)
 bif ae .eql x0 1 then gd x1<|gd x2<|gd x3<|gd x4<|gd (ao y0)<|gd (ae .eql (ac (ab y0 1)) (ac (ab y0 1)))<|gd (ae .eql (ac (ab y0 0)) (ac (ab y0 0)))<|gd x3<|gd x4<|ge pd0<|ge pd1<|ge pd2<|ge pd3<|ge x5<|ge x6<|some [ab y0 0,ab y0 1]else bif ae .eql x0 2 then gd x1<|gd x2<|gd x3<|gd x4<|gd (ao y1)<|gd (ae .eql x7 x7)<|gd (ae .eql x8 x8)<|gd x3<|gd x4<|gd (ao y2)<|gd (ae .eql (ac (ab y2 1)) (ac (ab y2 1)))<|gd (ae .eql (ac (ab y2 0)) (ac (ab y2 0)))<|gd x3<|gd x4<|ge pd0<|ge pd1<|ge pd2<|ge pd3<|ge x5<|ge x6<|some [ab y2 0,ab y2 1]else gd (aS (aa sd0 4) 0)<|gd x1<|gd x2<|gd x3<|gd x4<|gd y3<|bif ae .eql x0 16 then gd x9<|gd x10<|gd x3<|gd x4<|gd (ao y6)<|gd (ae .eql x11 x11)<|gd (ae .eql x12 x12)<|gd x3<|gd x4<|gd (ao y7)<|gd (ae .eql (ac (ab y7 1)) (ac (ab y7 1)))<|gd (ae .eql (ac (ab y7 0)) (ac (ab y7 0)))<|gd x3<|gd x4<|ge pd0<|ge pd1<|ge pd2<|ge pd3<|ge x5<|ge x6<|some [ab y7 0,ab y7 1]else bif ae .eql x0 17 then gd x9<|gd x10<|gd x3<|gd x4<|gd (ao y8)<|gd (ae .eql x13 x13)<|gd (ae .eql x14 x14)<|gd x3<|gd x4<|gd (ao y9)<|gd (ae .eql x15 x15)<|gd (ae .eql x16 x16)<|gd x3<|gd x4<|gd (ao y10)<|gd (ae .eql (ac (ab y10 1)) (ac (ab y10 1)))<|gd (ae .eql (ac (ab y10 0)) (ac (ab y10 0)))<|gd x3<|gd x4<|ge pd0<|ge pd1<|ge pd2<|ge pd3<|ge x5<|ge x6<|some [ab y10 0,ab y10 1]else bif ae .eql x0 18 then gd x9<|gd x10<|gd x3<|gd x4<|gd (ao y11)<|gd (ae .eql (ac (ab y11 1)) (ac (ab y11 1)))<|gd (ae .eql (ac (ab y11 0)) (ac (ab y11 0)))<|gd x3<|gd x4<|ge pd0<|ge pd1<|ge pd2<|ge pd3<|ge x5<|ge x6<|some [ab y11 0,ab y11 1]else bif ae .eql x0 19 then gd x9<|gd x10<|gd x3<|gd x4<|gd (ao y13)<|gd (ae .eql x17 x17)<|gd (ae .eql x18 x18)<|gd x3<|gd x4<|gd (ao y14)<|gd (ae .eql (ac (ab y14 1)) (ac (ab y14 1)))<|gd (ae .eql (ac (ab y14 0)) (ac (ab y14 0)))<|gd x3<|gd x4<|ge pd0<|ge pd1<|ge pd2<|ge pd3<|ge x5<|ge x6<|some [ab y14 0,ab y14 1]else gd x9<|gd x10<|gd x3<|gd x4<|gd (ao y15)<|gd (aS (aa sd0 4) 1)<|gd (ae .eql x19 x19)<|gd (ae .eql x20 x20)<|gd x3<|gd x4<|gd y16<|gd (ae .eql (ac y17) (ac y17))<|gd (ae .eql (ac y18) (ac y18))<|gd x3<|gd x4<|gd (ao y19)<|gd (ae .eql x21 x21)<|gd (ae .eql x22 x22)<|gd x3<|gd x4<|gd (ao y20)<|gd (ae .eql x23 x23)<|gd (ae .eql x24 x24)<|gd x3<|gd x4<|gd (ao y21)<|gd (ae .eql (ac (ab y21 1)) (ac (ab y21 1)))<|gd (ae .eql (ac (ab y21 0)) (ac (ab y21 0)))<|gd x3<|gd x4<|ge pd0<|ge pd1<|ge pd2<|ge pd3<|ge x5<|ge x6<|some [ab y21 0,ab y21 1]:=by kernel_rfl
def Fb45_eq:=by have h:= @Fb45_e;simp only[aE,gd,aj,ai,ak,au,ar,aD,ap]at h;exact h
def F45:Nat->uAC:=levels Fb45
theorem F45_s (n:Nat):F45 (n+1)=Fb45 (F45 n):=rfl
def q45:uAC:=veil fun ds=>F45 (aW ds) ds
theorem q45_eq:q45=fun ds=>F45 (aW ds) ds:=am _
theorem sound45:aH env.P 45 S45 q45:=gj (fun q=>tbR45 q) (fun q hq=>ok_tbR45 q hq) q45_eq
def tb45:Tb:=Tb.addF tb108 45 S45 q45
theorem ok_tb45:TbOk env tb45:=TbOk.addF KR (by kernel_rfl) sound45
def S230:FunS:=⟨[utP 0 0,utD 25,utI],[(.lst false 288),(.lst false 3),(.lst true 3),(.lst true 46),(.cells [ufO 1 46,ufO 2 3,ufO 3 3,ufO 4 288,ufR 9,ufR 9,ufS (.int .u32),ufI])],[utS (.tup [])],[(.lst true 3),(.lst true 46),(.lst false 288),(.lst false 3), .skip, .skip,(.cells [utO 5 46,utO 6 3,utO 3 3,utO 4 288,ufR 9,ufR 9,ufS (.int .u32),ufI])]⟩
def F230:uAC:=aN env tb45 60 12 230 S230
theorem F230_e (pd0:D) (pd1:D) (pd2:D) (pd3:D) (pn4:Int) (pn5:Int) (sd0:D) (sn1:Int) (sd2:D) (sd3:D):F230 [pd0,pd1,pd2,pd3,(D.int pn4),(D.int pn5),sd0,(D.int sn1),sd2,sd3] =
 let y0:=q45 [pd0,pd1,pd2,pd3,(.int pn4),(.int pn5),sd0,sd2,sd3]
 let y1:=q65 [pd0,pd1,pd2,pd3,(.int pn4),(.int pn5),(.int 15),(.int 0),(.int 0),(ab y0 0),(ab y0 1)]
 let y2:=qy [pd0,pd1,pd2,pd3,(.int pn4),(.int pn5),(.int 1),(.int sn1),(ab y1 0),(ab y1 1)]
 let x0:=ae .eql (ac pd1) (ac pd1)
 let x1:=ae .eql (ac pd0) (ac pd0)
 let x2:=ac (ab y0 1)
 let x3:=ac (ab y0 0)
 let x4:=ac (ab y1 1)
 let x5:=ac (ab y1 0)
 gd (ae .eql (ac sd3) (ac sd3))<|gd (ae .eql (ac sd2) (ac sd2))<|gd x0<|gd x1<|gd (ao y0)<|gd (ae .eql x2 x2)<|gd (ae .eql x3 x3)<|gd x0<|gd x1<|gd (ao y1)<|gd (ae .eql x4 x4)<|gd (ae .eql x5 x5)<|gd x0<|gd x1<|gd (ao y2)<|gd (ae .eql (ac (ab y2 1)) (ac (ab y2 1)))<|gd (ae .eql (ac (ab y2 0)) (ac (ab y2 0)))<|gd x0<|gd x1<|ge pd0<|ge pd1<|ge pd2<|ge pd3<|ge (.int pn4)<|ge (.int pn5)<|some [ab y2 0,ab y2 1]:=by kernel_rfl
def F230_eq:=by have h:= @F230_e;simp only[aE,gd,aj,ai,ak,au,ar,aD,ap]at h;exact h
def q230:uAC:=veil (F230)
theorem RE:q230=F230:=am _
def tb230:Tb:=Tb.addF tb45 230 S230 (q230)
theorem ok_tb230:TbOk env (tb230):=aI ok_tb45 230 (by kernel_rfl) _ (RE)
def S185_2:LoopS:=⟨5,ufP 0 0::⟨false, .str⟩::uF::uF::ufZ::utI::uAA 43 [],[(.lst false 288),(.lst false 3),(.lst false 3),(.lst false 46), .skip, .skip, .skip, .skip,(.cells [ufO 5 46,ufO 6 3,ufO 7 3,ufO 8 288,ufR 9,ufR 9,ufS (.int .u32),ufI])],[⟨0,0,utP 0 0::⟨false, .str⟩::uT::uT::utZ::uAB 44 [],[(.lst false 288),(.lst false 3),(.lst false 3),(.lst false 46), .skip, .skip, .skip, .skip,(.cells [utO 5 46,utO 6 3,utO 7 3,utO 8 288,ufR 9,ufR 9,ufS (.int .u32),ufI])]⟩,⟨1,0,uT::⟨false, .str⟩::uT::uT::utI::uAB 44 [],[(.lst false 288),(.lst false 3),(.lst false 3),(.lst false 46), .skip, .skip, .skip, .skip,(.cells [utO 5 46,utO 6 3,utO 7 3,utO 8 288,ufR 9,ufR 9,ufS (.int .u32),ufI])]⟩]⟩
def qz (p s:List D):Option (Sum (List D) (List D)):=aO env tb230 60 12 185 (bc 185 2) S185_2 p s
theorem UR (ps0:ByteArray) (pd1:D) (pd2:D) (pd3:D) (pd4:D) (pd5:D) (pd6:D) (pn7:Int) (pn8:Int) (sn0:Int):qz [(D.str ps0),pd1,pd2,pd3,pd4,pd5,pd6,(D.int pn7),(D.int pn8)] [(D.int sn0)] =
 let x0:=ac pd1
 let x1:=ae .lss sn0 x0
 let x2:=ae .leq 0 sn0
 let x3:=aS pd1 sn0
 let x4:=ax pd1 sn0
 let x5:=ae .eql (ac pd4) (ac pd4)
 let x6:=ae .eql (ac pd3) (ac pd3)
 let x7:=ae .eql (ac pd2) (ac pd2)
 let x8:=ae .eql x0 x0
 let x9:=D.str ps0
 let x10:=D.int pn7
 let x11:=D.int pn8
 bif x1 then gd x2<|gd x1<|gd x3<|bif cD .eql (aC (aa x4 0)) ps0 then gd x2<|gd x1<|gd x3<|gd x5<|gd x6<|gd x7<|gd x8<|ge x9<|ge pd1<|ge pd2<|ge pd3<|ge pd4<|ge pd5<|ge pd6<|ge x10<|ge x11<|some (Sum.inr [.int 1,.int (ah (aa x4 1))])else gd x5<|gd x6<|gd x7<|gd x8<|ge x9<|ge pd1<|ge pd2<|ge pd3<|ge pd4<|ge pd5<|ge pd6<|ge x10<|ge x11<|some (Sum.inl [.int (aM .add .i64 sn0 1)])else gd x5<|gd x6<|gd x7<|gd x8<|ge x9<|ge pd1<|ge pd2<|ge pd3<|ge pd4<|ge pd5<|ge pd6<|ge x10<|ge x11<|some (Sum.inr [.int 0]):=by kernel_rfl
def AU:=by have h:= @UR;simp only[aE,gd,aj,ai,ak,au,ar,aD,ap]at h;exact h
def OM:List D->uAC:=veil fun p s=>loW (qz p) s
theorem sJ:OM=fun p s=>loW (qz p) s:=am _
def AW:Tb:=Tb.addL tb230 185 2 S185_2.n0 (bL S185_2 (OM))
theorem KU:TbOk env (AW):=aG ok_tb230 185 2 (by kernel_rfl) _ (sJ)
def S185:FunS:=⟨[utP 0 0,⟨true, .str⟩],[(.lst true 288),(.lst true 3),(.lst true 3),(.lst true 46),(.cells [ufO 1 46,ufO 2 3,ufO 3 3,ufO 4 288,ufR 9,ufR 9,ufS (.int .u32),ufI])],[utI],[(.lst true 288),(.lst true 3),(.lst true 3),(.lst true 46), .skip, .skip, .skip, .skip,(.cells [utO 5 46,utO 6 3,utO 7 3,utO 8 288,ufR 9,ufR 9,ufS (.int .u32),ufI])]⟩
def F185:uAC:=aN env AW 60 12 185 S185
theorem F185_e (pd0:D) (pd1:D) (pn2:Int) (pn3:Int) (ss0:ByteArray) (sd1:D) (sd2:D) (sd3:D) (sd4:D):F185 [pd0,pd1,(D.int pn2),(D.int pn3),(D.str ss0),sd1,sd2,sd3,sd4] =
 let y0:=OM [(.str ss0),sd1,sd2,sd3,sd4,pd0,pd1,(.int pn2),(.int pn3)] [(.int 0)]
 let y1:=q62 [sd1,sd3,sd4,pd0,pd1,(.int pn2),(.int pn3),sd2]
 let y2:=bt sd1 (.list [(.agg [(.str ss0),(.int (ah (ab y1 0)))])])
 let x0:=ae .eql (ac sd4) (ac sd4)
 let x1:=ae .eql (ac sd3) (ac sd3)
 let x2:=ae .eql (ac sd2) (ac sd2)
 let x3:=ae .eql (ac sd1) (ac sd1)
 let x4:=ac y2
 gd x0<|gd x1<|gd x2<|gd x3<|gd (ao y0)<|bif ae .eql (ah (ab y0 0)) 0 then gd x0<|gd x1<|gd x2<|gd x3<|gd (ao y1)<|gd x3<|gd (ci x4 24)<|gd x0<|gd x1<|gd (ae .eql (ac (ab y1 1)) (ac (ab y1 1)))<|gd (ae .eql x4 x4)<|ge pd0<|ge pd1<|ge (.int pn2)<|ge (.int pn3)<|some [.int (ah (ab y1 0)),y2,ab y1 1,sd3,sd4]else gd x0<|gd x1<|gd x2<|gd x3<|ge pd0<|ge pd1<|ge (.int pn2)<|ge (.int pn3)<|some [.int (ah (ab y0 1)),sd1,sd2,sd3,sd4]:=by kernel_rfl
def RF:=by have h:= @F185_e;simp only[aE,gd,aj,ai,ak,au,ar,aD,ap]at h;exact h
def q185:uAC:=veil (F185)
theorem Gq:q185=F185:=am _
def tb185:Tb:=Tb.addF AW 185 S185 (q185)
theorem KV:TbOk env (tb185):=aI KU 185 (by kernel_rfl) _ (Gq)
def uO:FunS:=⟨[utP 0 0,utD 187,utI,utI],[(.lst true 288),(.lst true 3),(.lst true 3),(.lst true 46),(.cells [ufO 1 46,ufO 2 3,ufO 3 3,ufO 4 288,ufR 9,ufR 9,ufS (.int .u32),ufI])],[utS (.tup [])],[(.lst true 288),(.lst true 3),(.lst true 3),(.lst true 46), .skip, .skip, .skip, .skip,(.cells [utO 5 46,utO 6 3,utO 7 3,utO 8 288,ufR 9,ufR 9,ufS (.int .u32),ufI])]⟩
def ON (Q:uAC):Tb:=Tb.addF tb185 123 uO Q
theorem US (Q:uAC) (hQ:aH env.P 123 uO Q):TbOk env (ON Q):=TbOk.addF KV (by kernel_rfl) hQ
def S66_1:LoopS:=⟨5,ufP 0 0::ufR 187::ufI::ufI::uF::uF::uF::uF::utI::uAA 14 [],[(.lst true 288),(.lst true 3),(.lst true 3),(.lst true 46), .skip, .skip, .skip, .skip,(.cells [ufO 5 46,ufO 6 3,ufO 7 3,ufO 8 288,ufR 9,ufR 9,ufS (.int .u32),ufI])],[⟨0,0,uT::ufR 187::ufI::ufI::uAB 19 [],[(.lst true 288),(.lst true 3),(.lst true 3),(.lst true 46), .skip, .skip, .skip, .skip,(.cells [utO 5 46,utO 6 3,utO 7 3,utO 8 288,ufR 9,ufR 9,ufS (.int .u32),ufI])]⟩]⟩
def Gr (Q:uAC) (p s:List D):Option (Sum (List D) (List D)):=aO env (ON Q) 60 12 66 (bc 66 1) S66_1 p s
theorem st66_1_e (Q:uAC) (pd0:D) (pn1:Int) (pn2:Int) (pd3:D) (pd4:D) (pn5:Int) (pn6:Int) (sn0:Int) (sd1:D) (sd2:D) (sd3:D) (sd4:D):Gr Q [pd0,(D.int pn1),(D.int pn2),pd3,pd4,(D.int pn5),(D.int pn6)] [(D.int sn0),sd1,sd2,sd3,sd4] =
 let y0:=ao (Q [pd3,pd4,(.int pn5),(.int pn6),(ax pd0 sn0),(.int pn1),(.int pn2),sd1,sd2,sd3,sd4])
 let y1:=ab (Q [pd3,pd4,(.int pn5),(.int pn6),(ax pd0 sn0),(.int pn1),(.int pn2),sd1,sd2,sd3,sd4]) 3
 let y2:=ab (Q [pd3,pd4,(.int pn5),(.int pn6),(ax pd0 sn0),(.int pn1),(.int pn2),sd1,sd2,sd3,sd4]) 2
 let y3:=ab (Q [pd3,pd4,(.int pn5),(.int pn6),(ax pd0 sn0),(.int pn1),(.int pn2),sd1,sd2,sd3,sd4]) 1
 let y4:=ab (Q [pd3,pd4,(.int pn5),(.int pn6),(ax pd0 sn0),(.int pn1),(.int pn2),sd1,sd2,sd3,sd4]) 0
 let x0:=ae .eql (ac sd4) (ac sd4)
 let x1:=ae .eql (ac sd3) (ac sd3)
 let x2:=ae .eql (ac sd2) (ac sd2)
 let x3:=ae .eql (ac sd1) (ac sd1)
 bif ae .lss sn0 (ac pd0)then gd (aS pd0 sn0)<|gd x0<|gd x1<|gd x2<|gd x3<|gd y0<|gd (ae .eql (ac y1) (ac y1))<|gd (ae .eql (ac y2) (ac y2))<|gd (ae .eql (ac y3) (ac y3))<|gd (ae .eql (ac y4) (ac y4))<|ge pd0<|ge (.int pn1)<|ge (.int pn2)<|ge pd3<|ge pd4<|ge (.int pn5)<|ge (.int pn6)<|some (Sum.inl [.int (aM .add .i64 sn0 1),y4,y3,y2,y1])else gd x0<|gd x1<|gd x2<|gd x3<|ge pd0<|ge (.int pn1)<|ge (.int pn2)<|ge pd3<|ge pd4<|ge (.int pn5)<|ge (.int pn6)<|some (Sum.inr [.int 0,sd1,sd2,sd3,sd4]):=by kernel_rfl
def sK:=by have h:= @st66_1_e;simp only[aE,gd,aj,ai,ak,au,ar,aD,ap]at h;exact h
def l66_1 (Q:uAC):List D->uAC:=veil fun p s=>loW (Gr Q p) s
theorem AX (Q:uAC):l66_1 Q=fun p s=>loW (Gr Q p) s:=am _
def Gs (Q:uAC):Tb:=Tb.addL (ON Q) 66 1 S66_1.n0 (bL S66_1 (l66_1 Q))
theorem OO (Q:uAC) (hQ:aH env.P 123 uO Q):TbOk env (Gs Q):=aG (US Q hQ) 66 1 (by kernel_rfl) _ (AX Q)
def S66:FunS:=⟨[utP 0 0,utR 187,utI,utI],[(.lst true 288),(.lst true 3),(.lst true 3),(.lst true 46),(.cells [ufO 1 46,ufO 2 3,ufO 3 3,ufO 4 288,ufR 9,ufR 9,ufS (.int .u32),ufI])],[utS (.tup [])],[(.lst true 288),(.lst true 3),(.lst true 3),(.lst true 46), .skip, .skip, .skip, .skip,(.cells [utO 5 46,utO 6 3,utO 7 3,utO 8 288,ufR 9,ufR 9,ufS (.int .u32),ufI])]⟩
def F66 (Q:uAC):uAC:=aN env (Gs Q) 60 12 66 S66
theorem F66_e (Q:uAC) (pd0:D) (pd1:D) (pn2:Int) (pn3:Int) (sd0:D) (sn1:Int) (sn2:Int) (sd3:D) (sd4:D) (sd5:D) (sd6:D):F66 Q [pd0,pd1,(D.int pn2),(D.int pn3),sd0,(D.int sn1),(D.int sn2),sd3,sd4,sd5,sd6] =
 let y0:=l66_1 Q [sd0,(.int sn1),(.int sn2),pd0,pd1,(.int pn2),(.int pn3)] [(.int 0),sd3,sd4,sd5,sd6]
 gd (ae .eql (ac sd6) (ac sd6))<|gd (ae .eql (ac sd5) (ac sd5))<|gd (ae .eql (ac sd4) (ac sd4))<|gd (ae .eql (ac sd3) (ac sd3))<|gd (ao y0)<|gd (ae .eql (ac (ab y0 4)) (ac (ab y0 4)))<|gd (ae .eql (ac (ab y0 3)) (ac (ab y0 3)))<|gd (ae .eql (ac (ab y0 2)) (ac (ab y0 2)))<|gd (ae .eql (ac (ab y0 1)) (ac (ab y0 1)))<|ge pd0<|ge pd1<|ge (.int pn2)<|ge (.int pn3)<|some [ab y0 1,ab y0 2,ab y0 3,ab y0 4]:=by kernel_rfl
def F66_eq:=by have h:= @F66_e;simp only[aE,gd,aj,ai,ak,au,ar,aD,ap]at h;exact h
def q66 (Q:uAC):uAC:=veil (F66 Q)
theorem OP (Q:uAC):q66 Q=F66 Q:=am _
def tb66 (Q:uAC):Tb:=Tb.addF (Gs Q) 66 S66 (q66 Q)
theorem ok_tb66 (Q:uAC) (hQ:aH env.P 123 uO Q):TbOk env (tb66 Q):=aI (OO Q hQ) 66 (by kernel_rfl) _ (OP Q)
def S181:FunS:=⟨[utP 0 0,utD 187,utI,utI],[(.lst true 288),(.lst true 3),(.lst true 3),(.lst true 46),(.cells [ufO 1 46,ufO 2 3,ufO 3 3,ufO 4 288,ufR 9,ufR 9,ufS (.int .u32),ufI])],[utS (.tup [])],[(.lst true 288),(.lst true 3),(.lst true 3),(.lst true 46), .skip, .skip, .skip, .skip,(.cells [utO 5 46,utO 6 3,utO 7 3,utO 8 288,ufR 9,ufR 9,ufS (.int .u32),ufI])]⟩
def F181 (Q:uAC):uAC:=aN env (tb66 Q) 60 12 181 S181
theorem F181_e (Q:uAC) (pd0:D) (pd1:D) (pn2:Int) (pn3:Int) (sd0:D) (sn1:Int) (sn2:Int) (sd3:D) (sd4:D) (sd5:D) (sd6:D):F181 Q [pd0,pd1,(D.int pn2),(D.int pn3),sd0,(D.int sn1),(D.int sn2),sd3,sd4,sd5,sd6] =
 let y0:=q62 [sd3,sd5,sd6,pd0,pd1,(.int pn2),(.int pn3),sd4]
 let y1:=q62 [sd3,sd5,sd6,pd0,pd1,(.int pn2),(.int pn3),(ab y0 1)]
 let y2:=q230 [sd3,(ab y1 1),pd0,pd1,(.int pn2),(.int pn3),(ax (aa sd0 3) 0),(.int (ah (ab y0 0))),sd5,sd6]
 let y3:=q66 Q [pd0,pd1,(.int pn2),(.int pn3),(aa sd0 4),(.int sn1),(.int sn2),sd3,(ab y1 1),(ab y2 0),(ab y2 1)]
 let y4:=qy [(ab y3 0),(ab y3 1),pd0,pd1,(.int pn2),(.int pn3),(.int 0),(.int (ah (ab y1 0))),(ab y3 2),(ab y3 3)]
 let y5:=q67 [(ab y3 0),(ab y4 0),(ab y4 1),pd0,pd1,(.int pn2),(.int pn3),(.int (ah (ab y0 0))),(ab y3 1)]
 let y6:=q66 Q [pd0,pd1,(.int pn2),(.int pn3),(aa sd0 5),(.int sn1),(.int sn2),(ab y3 0),(ab y5 0),(ab y4 0),(ab y4 1)]
 let y7:=q67 [(ab y6 0),(ab y6 2),(ab y6 3),pd0,pd1,(.int pn2),(.int pn3),(.int (ah (ab y1 0))),(ab y6 1)]
 let y8:=q67 [(ab y3 0),(ab y3 2),(ab y3 3),pd0,pd1,(.int pn2),(.int pn3),(.int (ah (ab y0 0))),(ab y3 1)]
 let y9:=q66 Q [pd0,pd1,(.int pn2),(.int pn3),(aa sd0 5),(.int sn1),(.int sn2),(ab y3 0),(ab y8 0),(ab y3 2),(ab y3 3)]
 let y10:=q67 [(ab y9 0),(ab y9 2),(ab y9 3),pd0,pd1,(.int pn2),(.int pn3),(.int (ah (ab y1 0))),(ab y9 1)]
 let x0:=ae .eql (ac sd6) (ac sd6)
 let x1:=ae .eql (ac sd5) (ac sd5)
 let x2:=ae .eql (ac sd3) (ac sd3)
 let x3:=ac (ab y0 1)
 let x4:=ac (ab y1 1)
 let x5:=ae .eql x4 x4
 let x6:=ac (ab y2 1)
 let x7:=ac (ab y2 0)
 let x8:=ac (ab y3 3)
 let x9:=ae .eql x8 x8
 let x10:=ac (ab y3 2)
 let x11:=ae .eql x10 x10
 let x12:=ac (ab y3 1)
 let x13:=ae .eql x12 x12
 let x14:=ac (ab y3 0)
 let x15:=ae .eql x14 x14
 let x16:=ac (ab y4 1)
 let x17:=ae .eql x16 x16
 let x18:=ac (ab y4 0)
 let x19:=ae .eql x18 x18
 let x20:=ac (ab y5 0)
 let x21:=ae .eql (ac (ab y6 3)) (ac (ab y6 3))
 let x22:=ae .eql (ac (ab y6 2)) (ac (ab y6 2))
 let x23:=ac (ab y6 1)
 let x24:=ae .eql (ac (ab y6 0)) (ac (ab y6 0))
 let x25:=ac (ab y8 0)
 let x26:=ae .eql (ac (ab y9 3)) (ac (ab y9 3))
 let x27:=ae .eql (ac (ab y9 2)) (ac (ab y9 2))
 let x28:=ac (ab y9 1)
 let x29:=ae .eql (ac (ab y9 0)) (ac (ab y9 0))
 gd x0<|gd x1<|gd (ae .eql (ac sd4) (ac sd4))<|gd x2<|gd (ao y0)<|gd x0<|gd x1<|gd (ae .eql x3 x3)<|gd x2<|gd (ao y1)<|gd (aS (aa sd0 3) 0)<|gd x0<|gd x1<|gd x5<|gd x2<|gd (ao y2)<|gd (ae .eql x6 x6)<|gd (ae .eql x7 x7)<|gd x5<|gd x2<|gd (ao y3)<|bif ae .gtr (ac (aa sd0 5)) 0 then gd x9<|gd x11<|gd x13<|gd x15<|gd (ao y4)<|gd x17<|gd x19<|gd x13<|gd x15<|gd (ao y5)<|gd x17<|gd x19<|gd (ae .eql x20 x20)<|gd x15<|gd (ao y6)<|gd x21<|gd x22<|gd (ae .eql x23 x23)<|gd x24<|gd (ao y7)<|gd x21<|gd x22<|gd (ae .eql (ac (ab y7 0)) (ac (ab y7 0)))<|gd x24<|ge pd0<|ge pd1<|ge (.int pn2)<|ge (.int pn3)<|some [ab y6 0,ab y7 0,ab y6 2,ab y6 3]else gd x9<|gd x11<|gd x13<|gd x15<|gd (ao y8)<|gd x9<|gd x11<|gd (ae .eql x25 x25)<|gd x15<|gd (ao y9)<|gd x26<|gd x27<|gd (ae .eql x28 x28)<|gd x29<|gd (ao y10)<|gd x26<|gd x27<|gd (ae .eql (ac (ab y10 0)) (ac (ab y10 0)))<|gd x29<|ge pd0<|ge pd1<|ge (.int pn2)<|ge (.int pn3)<|some [ab y9 0,ab y10 0,ab y9 2,ab y9 3]:=by kernel_rfl
def RG:=by have h:= @F181_e;simp only[aE,gd,aj,ai,ak,au,ar,aD,ap]at h;exact h
def q181 (Q:uAC):uAC:=veil (F181 Q)
theorem Gt (Q:uAC):q181 Q=F181 Q:=am _
def tb181 (Q:uAC):Tb:=Tb.addF (tb66 Q) 181 S181 (q181 Q)
theorem ok_tb181 (Q:uAC) (hQ:aH env.P 123 uO Q):TbOk env (tb181 Q):=aI (ok_tb66 Q hQ) 181 (by kernel_rfl) _ (Gt Q)
def S182:FunS:=⟨[utP 0 0,utD 187],[(.lst true 288),(.lst true 3),(.lst true 3),(.lst true 46),(.cells [ufO 1 46,ufO 2 3,ufO 3 3,ufO 4 288,ufR 9,ufR 9,ufS (.int .u32),ufI])],[utS (.tup [])],[(.lst true 288),(.lst true 3),(.lst true 3),(.lst true 46), .skip, .skip, .skip, .skip,(.cells [utO 5 46,utO 6 3,utO 7 3,utO 8 288,ufR 9,ufR 9,ufS (.int .u32),ufI])]⟩
def F182 (Q:uAC):uAC:=aN env (tb181 Q) 60 12 182 S182
theorem F182_e (Q:uAC) (pd0:D) (pd1:D) (pn2:Int) (pn3:Int) (sd0:D) (sd1:D) (sd2:D) (sd3:D) (sd4:D):F182 Q [pd0,pd1,(D.int pn2),(D.int pn3),sd0,sd1,sd2,sd3,sd4] =
 let y0:=q62 [sd1,sd3,sd4,pd0,pd1,(.int pn2),(.int pn3),sd2]
 let y1:=q62 [sd1,sd3,sd4,pd0,pd1,(.int pn2),(.int pn3),(ab y0 1)]
 let y2:=q67 [sd1,sd3,sd4,pd0,pd1,(.int pn2),(.int pn3),(.int (ah (ab y0 0))),(ab y1 1)]
 let y3:=q230 [sd1,(ab y2 0),pd0,pd1,(.int pn2),(.int pn3),(ax (aa sd0 3) 0),(.int (ah (ab y1 0))),sd3,sd4]
 let y4:=q66 Q [pd0,pd1,(.int pn2),(.int pn3),(aa sd0 4),(.int (ah (ab y0 0))),(.int (ah (ab y1 0))),sd1,(ab y2 0),(ab y3 0),(ab y3 1)]
 let y5:=qy [(ab y4 0),(ab y4 1),pd0,pd1,(.int pn2),(.int pn3),(.int 0),(.int (ah (ab y0 0))),(ab y4 2),(ab y4 3)]
 let y6:=q67 [(ab y4 0),(ab y5 0),(ab y5 1),pd0,pd1,(.int pn2),(.int pn3),(.int (ah (ab y1 0))),(ab y4 1)]
 let y7:=q66 Q [pd0,pd1,(.int pn2),(.int pn3),(aa sd0 4),(.int (ah (ab y0 0))),(.int (ah (ab y1 0))),sd1,(ab y2 0),sd3,sd4]
 let y8:=qy [(ab y7 0),(ab y7 1),pd0,pd1,(.int pn2),(.int pn3),(.int 0),(.int (ah (ab y0 0))),(ab y7 2),(ab y7 3)]
 let y9:=q67 [(ab y7 0),(ab y8 0),(ab y8 1),pd0,pd1,(.int pn2),(.int pn3),(.int (ah (ab y1 0))),(ab y7 1)]
 let x0:=ae .eql (ac sd4) (ac sd4)
 let x1:=ae .eql (ac sd3) (ac sd3)
 let x2:=ae .eql (ac sd1) (ac sd1)
 let x3:=ac (ab y0 1)
 let x4:=ac (ab y1 1)
 let x5:=ac (ab y2 0)
 let x6:=ae .eql x5 x5
 let x7:=ac (ab y3 1)
 let x8:=ac (ab y3 0)
 let x9:=ac (ab y4 3)
 let x10:=ac (ab y4 2)
 let x11:=ac (ab y4 1)
 let x12:=ae .eql x11 x11
 let x13:=ae .eql (ac (ab y4 0)) (ac (ab y4 0))
 let x14:=ae .eql (ac (ab y5 1)) (ac (ab y5 1))
 let x15:=ae .eql (ac (ab y5 0)) (ac (ab y5 0))
 let x16:=ac (ab y7 3)
 let x17:=ac (ab y7 2)
 let x18:=ac (ab y7 1)
 let x19:=ae .eql x18 x18
 let x20:=ae .eql (ac (ab y7 0)) (ac (ab y7 0))
 let x21:=ae .eql (ac (ab y8 1)) (ac (ab y8 1))
 let x22:=ae .eql (ac (ab y8 0)) (ac (ab y8 0))
 gd x0<|gd x1<|gd (ae .eql (ac sd2) (ac sd2))<|gd x2<|gd (ao y0)<|gd x0<|gd x1<|gd (ae .eql x3 x3)<|gd x2<|gd (ao y1)<|gd x0<|gd x1<|gd (ae .eql x4 x4)<|gd x2<|gd (ao y2)<|bif ae .eql (ah (aa sd0 0)) 7 then gd (aS (aa sd0 3) 0)<|gd x0<|gd x1<|gd x6<|gd x2<|gd (ao y3)<|gd (ae .eql x7 x7)<|gd (ae .eql x8 x8)<|gd x6<|gd x2<|gd (ao y4)<|gd (ae .eql x9 x9)<|gd (ae .eql x10 x10)<|gd x12<|gd x13<|gd (ao y5)<|gd x14<|gd x15<|gd x12<|gd x13<|gd (ao y6)<|gd x14<|gd x15<|gd (ae .eql (ac (ab y6 0)) (ac (ab y6 0)))<|gd x13<|ge pd0<|ge pd1<|ge (.int pn2)<|ge (.int pn3)<|some [ab y4 0,ab y6 0,ab y5 0,ab y5 1]else gd x0<|gd x1<|gd x6<|gd x2<|gd (ao y7)<|gd (ae .eql x16 x16)<|gd (ae .eql x17 x17)<|gd x19<|gd x20<|gd (ao y8)<|gd x21<|gd x22<|gd x19<|gd x20<|gd (ao y9)<|gd x21<|gd x22<|gd (ae .eql (ac (ab y9 0)) (ac (ab y9 0)))<|gd x20<|ge pd0<|ge pd1<|ge (.int pn2)<|ge (.int pn3)<|some [ab y7 0,ab y9 0,ab y8 0,ab y8 1]:=by kernel_rfl
def RH:=by have h:= @F182_e;simp only[aE,gd,aj,ai,ak,au,ar,aD,ap]at h;exact h
def q182 (Q:uAC):uAC:=veil (F182 Q)
theorem Gu (Q:uAC):q182 Q=F182 Q:=am _
def tb182 (Q:uAC):Tb:=Tb.addF (tb181 Q) 182 S182 (q182 Q)
theorem ok_tb182 (Q:uAC) (hQ:aH env.P 123 uO Q):TbOk env (tb182 Q):=aI (ok_tb181 Q hQ) 182 (by kernel_rfl) _ (Gu Q)
def S183_4:LoopS:=⟨5,ufP 0 0::uF::ufI::ufI::uF::ufP 9 0::uF::uF::ufO 10 3::utI::uAA 66 [],[(.lst true 3),(.dat false 187),(.lst false 288),(.lst true 3),(.lst true 3),(.lst true 46), .skip, .skip, .skip, .skip,(.cells [ufO 5 46,ufO 6 3,ufO 7 3,ufO 8 288,ufR 9,ufR 9,ufS (.int .u32),ufI])],[⟨0,0,utP 0 0::uT::ufI::ufI::uT::utP 9 0::uT::uT::utO 10 3::uAB 67 [],[(.lst true 3),(.dat false 187),(.lst false 288),(.lst true 3),(.lst true 3),(.lst true 46), .skip, .skip, .skip, .skip,(.cells [utO 5 46,utO 6 3,utO 7 3,utO 8 288,ufR 9,ufR 9,ufS (.int .u32),ufI])]⟩]⟩
def vW (Q:uAC) (p s:List D):Option (Sum (List D) (List D)):=aO env (tb182 Q) 60 12 183 (bc 183 4) S183_4 p s
theorem UT (Q:uAC) (pn0:Int) (pn1:Int) (pd2:D) (pd3:D) (pd4:D) (pd5:D) (pn6:Int) (pn7:Int) (sn0:Int) (sd1:D) (sd2:D) (sd3:D) (sd4:D):vW Q [(D.int pn0),(D.int pn1),pd2,pd3,pd4,pd5,(D.int pn6),(D.int pn7)] [(D.int sn0),sd1,sd2,sd3,sd4] =
 let y0:=q62 [pd3,sd3,sd4,pd4,pd5,(.int pn6),(.int pn7),sd2]
 let y1:=ci (ac (bt sd1 (.list [(.int (ah (ab y0 0)))]))) 8
 let y2:=q65 [pd3,(ab y0 1),pd4,pd5,(.int pn6),(.int pn7),(.int 15),(.int 0),(.int (fz .u32 sn0)),sd3,sd4]
 let y3:=ae .lss sn0 (ac (bt sd1 (.list [(.int (ah (ab y0 0)))])))
 let y4:=ah (ax (bt sd1 (.list [(.int (ah (ab y0 0)))])) sn0)
 let y5:=qy [pd3,(ab y0 1),pd4,pd5,(.int pn6),(.int pn7),(.int 1),(.int y4),(ab y2 0),(ab y2 1)]
 let y6:=ae .eql (ac (bt sd1 (.list [(.int (ah (ab y0 0)))]))) (ac (bt sd1 (.list [(.int (ah (ab y0 0)))])))
 let x0:=ae .eql (ac sd4) (ac sd4)
 let x1:=ae .eql (ac sd3) (ac sd3)
 let x2:=ae .eql (ac sd2) (ac sd2)
 let x3:=ae .eql (ac pd3) (ac pd3)
 let x4:=ae .eql (ac sd1) (ac sd1)
 let x5:=ae .eql (ac (ab y0 1)) (ac (ab y0 1))
 let x6:=bt sd1 (.list [.int (ah (ab y0 0))])
 let x7:=ac (ab y2 1)
 let x8:=ac (ab y2 0)
 bif ae .lss sn0 (ac (aa pd2 6))then gd x0<|gd x1<|gd x2<|gd x3<|gd (ao y0)<|gd x4<|gd y1<|gd x0<|gd x1<|gd x5<|gd x3<|gd (ao y2)<|gd (ae .leq 0 sn0)<|gd y3<|gd (aS x6 sn0)<|gd (ae .eql x7 x7)<|gd (ae .eql x8 x8)<|gd x5<|gd x3<|gd (ao y5)<|gd y6<|gd (ae .eql (ac (ab y5 1)) (ac (ab y5 1)))<|gd (ae .eql (ac (ab y5 0)) (ac (ab y5 0)))<|gd x5<|gd x3<|ge (.int pn0)<|ge (.int pn1)<|ge pd2<|ge pd3<|ge pd4<|ge pd5<|ge (.int pn6)<|ge (.int pn7)<|some (Sum.inl [.int (aM .add .i64 sn0 1),x6,ab y0 1,ab y5 0,ab y5 1])else gd x4<|gd x0<|gd x1<|gd x2<|gd x3<|ge (.int pn0)<|ge (.int pn1)<|ge pd2<|ge pd3<|ge pd4<|ge pd5<|ge (.int pn6)<|ge (.int pn7)<|some (Sum.inr [.int 0,sd1,sd2,sd3,sd4]):=by kernel_rfl
def AY:=by have h:= @UT;simp only[aE,gd,aj,ai,ak,au,ar,aD,ap]at h;exact h
def Gv (Q:uAC):List D->uAC:=veil fun p s=>loW (vW Q p) s
theorem DB (Q:uAC):Gv Q=fun p s=>loW (vW Q p) s:=am _
def AZ (Q:uAC):Tb:=Tb.addL (tb182 Q) 183 4 S183_4.n0 (bL S183_4 (Gv Q))
theorem KW (Q:uAC) (hQ:aH env.P 123 uO Q):TbOk env (AZ Q):=aG (ok_tb182 Q hQ) 183 4 (by kernel_rfl) _ (DB Q)
def S183_13:LoopS:=⟨5,ufP 0 0::uF::ufI::ufI::uF::ufP 9 0::uF::uF::ufO 10 3::uF::ufI::utI::uAA 64 [],[(.lst false 3),(.dat false 187),(.lst true 288),(.lst true 3),(.lst true 3),(.lst true 46), .skip, .skip, .skip, .skip,(.cells [ufO 5 46,ufO 6 3,ufO 7 3,ufO 8 288,ufR 9,ufR 9,ufS (.int .u32),ufI])],[⟨0,2,utP 0 0::uT::ufI::ufI::uAB 6 (ufI::uAB 65 []),[(.lst false 3),(.dat false 187),(.lst true 288),(.lst true 3),(.lst true 3),(.lst true 46), .skip, .skip, .skip, .skip,(.cells [utO 5 46,utO 6 3,utO 7 3,utO 8 288,ufR 9,ufR 9,ufS (.int .u32),ufI])]⟩]⟩
def qA (Q:uAC) (p s:List D):Option (Sum (List D) (List D)):=aO env (AZ Q) 60 12 183 (bc 183 13) S183_13 p s
theorem OQ (Q:uAC) (pn0:Int) (pn1:Int) (pn2:Int) (pd3:D) (pd4:D) (pd5:D) (pd6:D) (pn7:Int) (pn8:Int) (sn0:Int) (sd1:D) (sd2:D) (sd3:D) (sd4:D):qA Q [(D.int pn0),(D.int pn1),(D.int pn2),pd3,pd4,pd5,pd6,(D.int pn7),(D.int pn8)] [(D.int sn0),sd1,sd2,sd3,sd4] =
 let y0:=q67 [sd1,sd3,sd4,pd5,pd6,(.int pn7),(.int pn8),(.int (ah (ax pd3 sn0))),sd2]
 let y1:=q66 Q [pd5,pd6,(.int pn7),(.int pn8),(ax (aa pd4 6) sn0),(.int pn0),(.int pn1),sd1,(ab y0 0),sd3,sd4]
 let y2:=qy [(ab y1 0),(ab y1 1),pd5,pd6,(.int pn7),(.int pn8),(.int 0),(.int pn2),(ab y1 2),(ab y1 3)]
 let x0:=ac pd3
 let x1:=ae .eql (ac sd4) (ac sd4)
 let x2:=ae .eql (ac sd3) (ac sd3)
 let x3:=ae .eql (ac sd2) (ac sd2)
 let x4:=ae .eql (ac sd1) (ac sd1)
 let x5:=ac (ab y0 0)
 let x6:=ac (ab y1 3)
 let x7:=ac (ab y1 2)
 let x8:=ae .eql (ac (ab y1 1)) (ac (ab y1 1))
 let x9:=ae .eql (ac (ab y1 0)) (ac (ab y1 0))
 bif ae .lss sn0 (ac (aa pd4 6))then gd (ae .leq 0 sn0)<|gd (ae .lss sn0 x0)<|gd (aS pd3 sn0)<|gd x1<|gd x2<|gd x3<|gd x4<|gd (ao y0)<|gd (aS (aa pd4 6) sn0)<|gd x1<|gd x2<|gd (ae .eql x5 x5)<|gd x4<|gd (ao y1)<|gd (ae .eql x6 x6)<|gd (ae .eql x7 x7)<|gd x8<|gd x9<|gd (ao y2)<|gd (ae .eql x0 x0)<|gd (ae .eql (ac (ab y2 1)) (ac (ab y2 1)))<|gd (ae .eql (ac (ab y2 0)) (ac (ab y2 0)))<|gd x8<|gd x9<|ge (.int pn0)<|ge (.int pn1)<|ge (.int pn2)<|ge pd3<|ge pd4<|ge pd5<|ge pd6<|ge (.int pn7)<|ge (.int pn8)<|some (Sum.inl [.int (aM .add .i64 sn0 1),ab y1 0,ab y1 1,ab y2 0,ab y2 1])else gd x1<|gd x2<|gd x3<|gd x4<|ge (.int pn0)<|ge (.int pn1)<|ge (.int pn2)<|ge pd3<|ge pd4<|ge pd5<|ge pd6<|ge (.int pn7)<|ge (.int pn8)<|some (Sum.inr [.int 0,sd1,sd2,sd3,sd4]):=by kernel_rfl
def uw:=by have h:= @OQ;simp only[aE,gd,aj,ai,ak,au,ar,aD,ap]at h;exact h
def vX (Q:uAC):List D->uAC:=veil fun p s=>loW (qA Q p) s
theorem A0 (Q:uAC):vX Q=fun p s=>loW (qA Q p) s:=am _
def sL (Q:uAC):Tb:=Tb.addL (AZ Q) 183 13 S183_13.n0 (bL S183_13 (vX Q))
theorem Gw (Q:uAC) (hQ:aH env.P 123 uO Q):TbOk env (sL Q):=aG (KW Q hQ) 183 13 (by kernel_rfl) _ (A0 Q)
def S183:FunS:=⟨[utP 0 0,utD 187,utI,utI],[(.lst true 288),(.lst true 3),(.lst true 3),(.lst true 46),(.cells [ufO 1 46,ufO 2 3,ufO 3 3,ufO 4 288,ufR 9,ufR 9,ufS (.int .u32),ufI])],[utS (.tup [])],[(.lst true 288),(.lst true 3),(.lst true 3),(.lst true 46), .skip, .skip, .skip, .skip,(.cells [utO 5 46,utO 6 3,utO 7 3,utO 8 288,ufR 9,ufR 9,ufS (.int .u32),ufI])]⟩
def F183 (Q:uAC):uAC:=aN env (sL Q) 60 12 183 S183
theorem F183_e (Q:uAC) (pd0:D) (pd1:D) (pn2:Int) (pn3:Int) (sd0:D) (sn1:Int) (sn2:Int) (sd3:D) (sd4:D) (sd5:D) (sd6:D):F183 Q [pd0,pd1,(D.int pn2),(D.int pn3),sd0,(D.int sn1),(D.int sn2),sd3,sd4,sd5,sd6] =
 let y0:=q45 [sd3,sd4,pd0,pd1,(.int pn2),(.int pn3),(ax (aa sd0 3) 0),sd5,sd6]
 let y1:=Gv Q [(.int sn1),(.int sn2),sd0,sd3,pd0,pd1,(.int pn2),(.int pn3)] [(.int 0),(.list []),sd4,(ab y0 0),(ab y0 1)]
 let y2:=q62 [sd3,(ab y1 3),(ab y1 4),pd0,pd1,(.int pn2),(.int pn3),(ab y1 2)]
 let y3:=q64 [sd3,(ab y2 1),pd0,pd1,(.int pn2),(.int pn3),(.agg [(.int 0),(.int 4294967295),(.int 5),(.int 2),(.int 0),(.int 0),(.int 0),(.int 0),(.int 0)]),(ab y1 3),(ab y1 4)]
 let y4:=q64 [sd3,(ab y2 1),pd0,pd1,(.int pn2),(.int pn3),(.agg [(.int 0),(.int 0),(.int 21),(.int 0),(.int 0),(.int 0),(.int 0),(.int 0),(.int 0)]),(ab y3 0),(ab y3 1)]
 let y5:=vX Q [(.int sn1),(.int sn2),(.int (ah (ab y2 0))),(ab y1 1),sd0,pd0,pd1,(.int pn2),(.int pn3)] [(.int 0),sd3,(ab y2 1),(ab y4 0),(ab y4 1)]
 let y6:=q67 [(ab y5 1),(ab y5 3),(ab y5 4),pd0,pd1,(.int pn2),(.int pn3),(.int (ah (ab y2 0))),(ab y5 2)]
 let x0:=ae .eql (ac sd4) (ac sd4)
 let x1:=ae .eql (ac sd3) (ac sd3)
 let x2:=ac (ab y0 1)
 let x3:=ac (ab y0 0)
 let x4:=ac (ab y1 4)
 let x5:=ae .eql x4 x4
 let x6:=ac (ab y1 3)
 let x7:=ae .eql x6 x6
 let x8:=ac (ab y1 2)
 let x9:=ac (ab y2 1)
 let x10:=ae .eql x9 x9
 let x11:=ac (ab y3 1)
 let x12:=ac (ab y3 0)
 let x13:=ac (ab y1 1)
 let x14:=ac (ab y4 1)
 let x15:=ac (ab y4 0)
 let x16:=ae .eql (ac (ab y5 4)) (ac (ab y5 4))
 let x17:=ae .eql (ac (ab y5 3)) (ac (ab y5 3))
 let x18:=ac (ab y5 2)
 let x19:=ae .eql (ac (ab y5 1)) (ac (ab y5 1))
 gd (aS (aa sd0 3) 0)<|gd (ae .eql (ac sd6) (ac sd6))<|gd (ae .eql (ac sd5) (ac sd5))<|gd x0<|gd x1<|gd (ao y0)<|gd (ae .eql 0 (ac (.list [])))<|gd (ae .eql x2 x2)<|gd (ae .eql x3 x3)<|gd x0<|gd x1<|gd (ao y1)<|gd x5<|gd x7<|gd (ae .eql x8 x8)<|gd x1<|gd (ao y2)<|gd x5<|gd x7<|gd x10<|gd x1<|gd (ao y3)<|gd (ae .eql x11 x11)<|gd (ae .eql x12 x12)<|gd x10<|gd x1<|gd (ao y4)<|gd (ae .eql x13 x13)<|gd (ae .eql x14 x14)<|gd (ae .eql x15 x15)<|gd x10<|gd x1<|gd (ao y5)<|gd x16<|gd x17<|gd (ae .eql x18 x18)<|gd x19<|gd (ao y6)<|gd x16<|gd x17<|gd (ae .eql (ac (ab y6 0)) (ac (ab y6 0)))<|gd x19<|ge pd0<|ge pd1<|ge (.int pn2)<|ge (.int pn3)<|some [ab y5 1,ab y6 0,ab y5 3,ab y5 4]:=by kernel_rfl
def F183_eq:=by have h:= @F183_e;simp only[aE,gd,aj,ai,ak,au,ar,aD,ap]at h;exact h
def q183 (Q:uAC):uAC:=veil (F183 Q)
theorem RI (Q:uAC):q183 Q=F183 Q:=am _
def tb183 (Q:uAC):Tb:=Tb.addF (sL Q) 183 S183 (q183 Q)
theorem ok_tb183 (Q:uAC) (hQ:aH env.P 123 uO Q):TbOk env (tb183 Q):=aI (Gw Q hQ) 183 (by kernel_rfl) _ (RI Q)
def eV (Q:uAC):uAC:=aN env (tb183 Q) 60 12 123 uO
theorem Fb123_e (Q:uAC) (pd0:D) (pd1:D) (pn2:Int) (pn3:Int) (sd0:D) (sn1:Int) (sn2:Int) (sd3:D) (sd4:D) (sd5:D) (sd6:D):eV Q [pd0,pd1,(D.int pn2),(D.int pn3),sd0,(D.int sn1),(D.int sn2),sd3,sd4,sd5,sd6] =
 let y0:=q45 [sd3,sd4,pd0,pd1,(.int pn2),(.int pn3),(ax (aa sd0 3) 0),sd5,sd6]
 let y1:=q68 [sd3,sd4,pd0,pd1,(.int pn2),(.int pn3),(.str (aC (aa sd0 2))),(ab y0 0),(ab y0 1)]
 let y2:=q64 [sd3,sd4,pd0,pd1,(.int pn2),(.int pn3),(.agg [(.int 0),(.int 0),(.int 3),(.int 0),(.int 0),(.int 0),(.int 0),(.int 0),(.int 0)]),(ab y0 0),(ab y0 1)]
 let y3:=q45 [sd3,sd4,pd0,pd1,(.int pn2),(.int pn3),(ax (aa sd0 3) 1),(ab y2 0),(ab y2 1)]
 let y4:=q64 [sd3,sd4,pd0,pd1,(.int pn2),(.int pn3),(.agg [(.int 0),(.int 0),(.int 4),(.int 0),(.int 0),(.int 0),(.int 2),(.int 0),(.int 0)]),(ab y3 0),(ab y3 1)]
 let y5:=q64 [sd3,sd4,pd0,pd1,(.int pn2),(.int pn3),(.agg [(.int 0),(.int 0),(.int 18),(.int 0),(.int (ah (aa sd0 1))),(.int 0),(.int 0),(.int 2),(.int 0)]),(ab y4 0),(ab y4 1)]
 let y6:=q64 [sd3,sd4,pd0,pd1,(.int pn2),(.int pn3),(.agg [(.int 0),(.int 0),(.int 26),(.int 0),(.int 0),(.int 0),(.int 0),(.int 0),(.int 0)]),sd5,sd6]
 let y7:=q68 [sd3,sd4,pd0,pd1,(.int pn2),(.int pn3),(.str (aC (aa sd0 2))),(ab y6 0),(ab y6 1)]
 let y8:=q64 [sd3,sd4,pd0,pd1,(.int pn2),(.int pn3),(.agg [(.int 0),(.int 0),(.int 27),(.int 0),(.int 0),(.int 0),(.int 0),(.int 0),(.int 0)]),(ab y0 0),(ab y0 1)]
 let y9:=bt sd6 (.list [(.agg [(.int 0),(.int 0),(.int 23),(.int 0),(.int 0),(.int 0),(.int 0),(.int 0),(.int 0)])])
 let y10:=Ke [pd1,(.str (aC (aa sd0 2)))]
 let y11:=bt sd5 (.list [(.int (aM .sub .i64 (-2) (ah (ab y10 0))))])
 let y12:=q181 Q [pd0,pd1,(.int pn2),(.int pn3),sd0,(.int sn1),(.int sn2),sd3,sd4,sd5,sd6]
 let y13:=az (ae .eql (ah (aa sd0 0)) 7) (ae .eql (ah (aa sd0 0)) 7) (ae .eql (ah (aa sd0 0)) 8)
 let y14:=q182 Q [pd0,pd1,(.int pn2),(.int pn3),sd0,sd3,sd4,sd5,sd6]
 let y15:=q183 Q [pd0,pd1,(.int pn2),(.int pn3),sd0,(.int sn1),(.int sn2),sd3,sd4,sd5,sd6]
 let y16:=qy [sd3,sd4,pd0,pd1,(.int pn2),(.int pn3),(.int 0),(.int sn2),sd5,sd6]
 let y17:=qy [sd3,sd4,pd0,pd1,(.int pn2),(.int pn3),(.int 0),(.int sn1),sd5,sd6]
 let y18:=q185 [pd0,pd1,(.int pn2),(.int pn3),(.str (aC (aa sd0 2))),sd3,sd4,sd5,sd6]
 let y19:=qy [(ab y18 1),(ab y18 2),pd0,pd1,(.int pn2),(.int pn3),(.int 0),(.int (ah (ab y18 0))),(ab y18 3),(ab y18 4)]
 let y20:=q67 [(ab y18 1),(ab y18 3),(ab y18 4),pd0,pd1,(.int pn2),(.int pn3),(.int (ah (ab y18 0))),(ab y18 2)]
 let y21:=qy [sd3,sd4,pd0,pd1,(.int pn2),(.int pn3),(.int 0),(.int pn3),sd5,sd6]
 let y22:=q64 [sd3,sd4,pd0,pd1,(.int pn2),(.int pn3),(.agg [(.int 0),(.int 0),(.int 1),(.int 0),(.int 0),(.int 0),(.int 0),(.int 0),(.int 0)]),sd5,sd6]
 let x0:=ah (aa sd0 0)
 let x1:=aS (aa sd0 3) 0
 let x2:=ae .eql (ac sd6) (ac sd6)
 let x3:=ae .eql (ac sd5) (ac sd5)
 let x4:=ae .eql (ac sd4) (ac sd4)
 let x5:=ae .eql (ac sd3) (ac sd3)
 let x6:=ao y0
 let x7:=ac (ab y0 1)
 let x8:=ae .eql x7 x7
 let x9:=ac (ab y0 0)
 let x10:=ae .eql x9 x9
 let x11:=D.int pn2
 let x12:=D.int pn3
 let x13:=ac (ab y2 1)
 let x14:=ac (ab y2 0)
 let x15:=ac (ab y3 1)
 let x16:=ac (ab y3 0)
 let x17:=ac (ab y4 1)
 let x18:=ac (ab y4 0)
 let x19:=ac (ab y6 1)
 let x20:=ac (ab y6 0)
 let x21:=ac y9
 let x22:=ac y11
 let x23:=ae .eql (ac (ab y18 4)) (ac (ab y18 4))
 let x24:=ae .eql (ac (ab y18 3)) (ac (ab y18 3))
 let x25:=ae .eql (ac (ab y18 2)) (ac (ab y18 2))
 let x26:=ab y18 1
 let x27:=ae .eql (ac x26) (ac x26)
 bif ae .eql x0 1 then gd x1<|gd x2<|gd x3<|gd x4<|gd x5<|gd x6<|gd x8<|gd x10<|gd x4<|gd x5<|gd (ao y1)<|gd (ae .eql (ac (ab y1 1)) (ac (ab y1 1)))<|gd (ae .eql (ac (ab y1 0)) (ac (ab y1 0)))<|gd x4<|gd x5<|ge pd0<|ge pd1<|ge x11<|ge x12<|some [sd3,sd4,ab y1 0,ab y1 1]else bif ae .eql x0 2 then gd x1<|gd x2<|gd x3<|gd x4<|gd x5<|gd x6<|gd x8<|gd x10<|gd x4<|gd x5<|gd (ao y2)<|gd (aS (aa sd0 3) 1)<|gd (ae .eql x13 x13)<|gd (ae .eql x14 x14)<|gd x4<|gd x5<|gd (ao y3)<|gd (ae .eql x15 x15)<|gd (ae .eql x16 x16)<|gd x4<|gd x5<|gd (ao y4)<|gd (ae .eql x17 x17)<|gd (ae .eql x18 x18)<|gd x4<|gd x5<|gd (ao y5)<|gd (ae .eql (ac (ab y5 1)) (ac (ab y5 1)))<|gd (ae .eql (ac (ab y5 0)) (ac (ab y5 0)))<|gd x4<|gd x5<|ge pd0<|ge pd1<|ge x11<|ge x12<|some [sd3,sd4,ab y5 0,ab y5 1]else bif ae .eql x0 3 then gd x2<|gd x3<|gd x4<|gd x5<|gd (ao y6)<|gd (ae .eql x19 x19)<|gd (ae .eql x20 x20)<|gd x4<|gd x5<|gd (ao y7)<|gd (ae .eql (ac (ab y7 1)) (ac (ab y7 1)))<|gd (ae .eql (ac (ab y7 0)) (ac (ab y7 0)))<|gd x4<|gd x5<|ge pd0<|ge pd1<|ge x11<|ge x12<|some [sd3,sd4,ab y7 0,ab y7 1]else bif ae .eql x0 4 then gd x1<|gd x2<|gd x3<|gd x4<|gd x5<|gd x6<|gd x8<|gd x10<|gd x4<|gd x5<|gd (ao y8)<|gd (ae .eql (ac (ab y8 1)) (ac (ab y8 1)))<|gd (ae .eql (ac (ab y8 0)) (ac (ab y8 0)))<|gd x4<|gd x5<|ge pd0<|ge pd1<|ge x11<|ge x12<|some [sd3,sd4,ab y8 0,ab y8 1]else bif ae .eql x0 5 then gd x2<|gd (ci x21 64)<|gd (ao y10)<|gd x3<|gd (ci x22 8)<|gd (ae .eql x21 x21)<|gd (ae .eql x22 x22)<|gd x4<|gd x5<|ge pd0<|ge pd1<|ge x11<|ge x12<|some [sd3,sd4,y11,y9]else bif ae .eql x0 6 then gd x2<|gd x3<|gd x4<|gd x5<|gd (ao y12)<|gd (ae .eql (ac (ab y12 3)) (ac (ab y12 3)))<|gd (ae .eql (ac (ab y12 2)) (ac (ab y12 2)))<|gd (ae .eql (ac (ab y12 1)) (ac (ab y12 1)))<|gd (ae .eql (ac (ab y12 0)) (ac (ab y12 0)))<|ge pd0<|ge pd1<|ge x11<|ge x12<|some [ab y12 0,ab y12 1,ab y12 2,ab y12 3]else bif y13 then gd x2<|gd x3<|gd x4<|gd x5<|gd (ao y14)<|gd (ae .eql (ac (ab y14 3)) (ac (ab y14 3)))<|gd (ae .eql (ac (ab y14 2)) (ac (ab y14 2)))<|gd (ae .eql (ac (ab y14 1)) (ac (ab y14 1)))<|gd (ae .eql (ac (ab y14 0)) (ac (ab y14 0)))<|ge pd0<|ge pd1<|ge x11<|ge x12<|some [ab y14 0,ab y14 1,ab y14 2,ab y14 3]else bif ae .eql x0 9 then gd x2<|gd x3<|gd x4<|gd x5<|gd (ao y15)<|gd (ae .eql (ac (ab y15 3)) (ac (ab y15 3)))<|gd (ae .eql (ac (ab y15 2)) (ac (ab y15 2)))<|gd (ae .eql (ac (ab y15 1)) (ac (ab y15 1)))<|gd (ae .eql (ac (ab y15 0)) (ac (ab y15 0)))<|ge pd0<|ge pd1<|ge x11<|ge x12<|some [ab y15 0,ab y15 1,ab y15 2,ab y15 3]else bif ae .eql x0 10 then gd x2<|gd x3<|gd x4<|gd x5<|gd (ao y16)<|gd (ae .eql (ac (ab y16 1)) (ac (ab y16 1)))<|gd (ae .eql (ac (ab y16 0)) (ac (ab y16 0)))<|gd x4<|gd x5<|ge pd0<|ge pd1<|ge x11<|ge x12<|some [sd3,sd4,ab y16 0,ab y16 1]else bif ae .eql x0 11 then gd x2<|gd x3<|gd x4<|gd x5<|gd (ao y17)<|gd (ae .eql (ac (ab y17 1)) (ac (ab y17 1)))<|gd (ae .eql (ac (ab y17 0)) (ac (ab y17 0)))<|gd x4<|gd x5<|ge pd0<|ge pd1<|ge x11<|ge x12<|some [sd3,sd4,ab y17 0,ab y17 1]else bif ae .eql x0 12 then gd x2<|gd x3<|gd x4<|gd x5<|gd (ao y18)<|gd x23<|gd x24<|gd x25<|gd x27<|gd (ao y19)<|gd (ae .eql (ac (ab y19 1)) (ac (ab y19 1)))<|gd (ae .eql (ac (ab y19 0)) (ac (ab y19 0)))<|gd x25<|gd x27<|ge pd0<|ge pd1<|ge x11<|ge x12<|some [x26,ab y18 2,ab y19 0,ab y19 1]else bif ae .eql x0 13 then gd x2<|gd x3<|gd x4<|gd x5<|gd (ao y18)<|gd x23<|gd x24<|gd x25<|gd x27<|gd (ao y20)<|gd x23<|gd x24<|gd (ae .eql (ac (ab y20 0)) (ac (ab y20 0)))<|gd x27<|ge pd0<|ge pd1<|ge x11<|ge x12<|some [x26,ab y20 0,ab y18 3,ab y18 4]else bif ae .eql x0 14 then gd x2<|gd x3<|gd x4<|gd x5<|gd (ao y21)<|gd (ae .eql (ac (ab y21 1)) (ac (ab y21 1)))<|gd (ae .eql (ac (ab y21 0)) (ac (ab y21 0)))<|gd x4<|gd x5<|ge pd0<|ge pd1<|ge x11<|ge x12<|some [sd3,sd4,ab y21 0,ab y21 1]else bif ae .eql x0 15 then gd x2<|gd x3<|gd x4<|gd x5<|gd (ao y22)<|gd (ae .eql (ac (ab y22 1)) (ac (ab y22 1)))<|gd (ae .eql (ac (ab y22 0)) (ac (ab y22 0)))<|gd x4<|gd x5<|ge pd0<|ge pd1<|ge x11<|ge x12<|some [sd3,sd4,ab y22 0,ab y22 1]else gd x2<|gd x3<|gd x4<|gd x5<|ge pd0<|ge pd1<|ge x11<|ge x12<|some [sd3,sd4,sd5,sd6]:=by kernel_rfl
def cK:=by have h:= @Fb123_e;simp only[aE,gd,aj,ai,ak,au,ar,aD,ap]at h;exact h
def KX:Nat->uAC:=levels eV
theorem F123_s (n:Nat):KX (n+1)=eV (KX n):=rfl
def OR:uAC:=veil fun ds=>KX (aW ds) ds
theorem RJ:OR=fun ds=>KX (aW ds) ds:=am _
theorem sound123:aH env.P 123 uO OR:=gj (fun q=>tb183 q) (fun q hq=>ok_tb183 q hq) RJ
def tb123:Tb:=Tb.addF tb185 123 uO OR
theorem ok_tb123:TbOk env tb123:=TbOk.addF KV (by kernel_rfl) sound123
def S60_3:LoopS:=⟨7,ufP 0 0::uF::ufN::ufP 7 0::uAA 6 (ufO 2 106::ufI::utI::uAA 19 []),[(.lst true 3),(.cells [ufO 8 3]),(.lst false 106),(.lst false 106),(.mp false 9 106),(.mp false 106 3),(.lst false 106),(.lst false 46),(.cells [ufO 1 46,ufO 2 106,ufS (.map 3),ufS (.map 4),ufI,ufR 9,ufR 9,ufS (.int .u32),ufI,ufO 5 106,ufO 6 106])],[⟨0,0,uT::uT::utN::utP 7 0::uAB 7 (ufI::uAB 20 []),[(.lst true 3),(.cells [utO 8 3]),(.lst false 106),(.lst false 106),(.mp false 9 106),(.mp false 106 3),(.lst false 106),(.lst false 46),(.cells [utO 1 46,utO 2 106,utS (.map 3),utS (.map 4),ufI,ufR 9,ufR 9,ufS (.int .u32),ufI,utO 5 106,utO 6 106])]⟩]⟩
def Gx (p s:List D):Option (Sum (List D) (List D)):=aO env tb123 60 12 60 (bc 60 3) S60_3 p s
theorem st60_3_e (pn0:Int) (pd1:D) (pd2:D) (pd3:D) (pd4:D) (pd5:D) (pd6:D) (pn7:Int) (pd8:D) (pd9:D) (pn10:Int) (pn11:Int) (sn0:Int) (sd1:D):Gx [(D.int pn0),pd1,pd2,pd3,pd4,pd5,pd6,(D.int pn7),pd8,pd9,(D.int pn10),(D.int pn11)] [(D.int sn0),sd1] =
 let y0:=ah (lS 106 (.int 0) pd4 (.int (ah (ax pd5 sn0))))
 let y1:=ae .eql (ac (bt sd1 (.list [(.int y0)]))) (ac (bt sd1 (.list [(.int y0)])))
 let y2:=ci (ac (bt sd1 (.list [(.int (ah (ax pd5 sn0)))]))) 8
 let y3:=ae .eql (ac (bt sd1 (.list [(.int (ah (ax pd5 sn0)))]))) (ac (bt sd1 (.list [(.int (ah (ax pd5 sn0)))])))
 let x0:=ac pd5
 let x1:=ah (ax pd5 sn0)
 let x2:=ae .eql (ac sd1) (ac sd1)
 let x3:=bt sd1 (.list [.int y0])
 let x4:=ae .eql x0 x0
 let x5:=ae .eql (ac pd6) (ac pd6)
 let x6:=ae .eql (ac pd2) (ac pd2)
 let x7:=ae .eql (ac pd1) (ac pd1)
 let x8:=D.int pn0
 let x9:=D.int pn7
 let x10:=D.int pn10
 let x11:=D.int pn11
 let x12:=D.int (aM .add .i64 sn0 1)
 bif ae .lss sn0 pn0 then gd (ae .leq 0 sn0)<|gd (ae .lss sn0 x0)<|gd (aS pd5 sn0)<|bif ae .geq x1 0 then gd x2<|gd (ci (ac x3) 8)<|gd x4<|gd y1<|gd x5<|gd x4<|gd x6<|gd x7<|ge x8<|ge pd1<|ge pd2<|ge pd3<|ge pd4<|ge pd5<|ge pd6<|ge x9<|ge pd8<|ge pd9<|ge x10<|ge x11<|some (Sum.inl [x12,x3])else gd x2<|gd y2<|gd x4<|gd y3<|gd x5<|gd x4<|gd x6<|gd x7<|ge x8<|ge pd1<|ge pd2<|ge pd3<|ge pd4<|ge pd5<|ge pd6<|ge x9<|ge pd8<|ge pd9<|ge x10<|ge x11<|some (Sum.inl [x12,bt sd1 (.list [.int x1])])else gd x2<|gd x5<|gd x4<|gd x6<|gd x7<|ge x8<|ge pd1<|ge pd2<|ge pd3<|ge pd4<|ge pd5<|ge pd6<|ge x9<|ge pd8<|ge pd9<|ge x10<|ge x11<|some (Sum.inr [.int 0,sd1]):=by kernel_rfl
def DC:=by have h:= @st60_3_e;simp only[aE,gd,aj,ai,ak,au,ar,aD,ap]at h;exact h
def RK:List D->uAC:=veil fun p s=>loW (Gx p) s
theorem KY:RK=fun p s=>loW (Gx p) s:=am _
def Gy:Tb:=Tb.addL tb123 60 3 S60_3.n0 (bL S60_3 (RK))
theorem OS:TbOk env (Gy):=aG ok_tb123 60 3 (by kernel_rfl) _ (KY)
def S60:FunS:=⟨[utP 0 0],[(.lst false 106),(.lst false 106),(.mp false 9 106),(.mp false 106 3),(.lst false 106),(.lst false 46),(.cells [ufO 1 46,ufO 2 106,ufS (.map 3),ufS (.map 4),ufI,ufR 9,ufR 9,ufS (.int .u32),ufI,ufO 5 106,ufO 6 106])],[utO 7 3],[(.lst true 3),(.lst false 106),(.lst false 106),(.mp false 9 106),(.mp false 106 3),(.lst false 106),(.lst false 46),(.cells [utO 1 46,utO 2 106,utS (.map 3),utS (.map 4),ufI,ufR 9,ufR 9,ufS (.int .u32),ufI,utO 5 106,utO 6 106])]⟩
def F60:uAC:=aN env Gy 60 12 60 S60
theorem F60_e (pd0:D) (pd1:D) (pd2:D) (pd3:D) (pd4:D) (pd5:D) (pn6:Int) (pd7:D) (pd8:D) (pn9:Int) (pn10:Int):F60 [pd0,pd1,pd2,pd3,pd4,pd5,(D.int pn6),pd7,pd8,(D.int pn9),(D.int pn10)] =
 let y0:=RK [(.int (ac pd4)),pd0,pd1,pd2,pd3,pd4,pd5,(.int pn6),pd7,pd8,(.int pn9),(.int pn10)] [(.int 0),(.list [])]
 let x0:=ae .eql (ac pd4) (ac pd4)
 let x1:=ae .eql (ac pd5) (ac pd5)
 let x2:=ae .eql (ac pd1) (ac pd1)
 let x3:=ae .eql (ac pd0) (ac pd0)
 gd x0<|gd (ae .eql 0 (ac (.list [])))<|gd x1<|gd x0<|gd x2<|gd x3<|gd (ao y0)<|gd (ae .eql (ac (ab y0 1)) (ac (ab y0 1)))<|gd x1<|gd x0<|gd x2<|gd x3<|ge pd0<|ge pd1<|ge pd2<|ge pd3<|ge pd4<|ge pd5<|ge (.int pn6)<|ge pd7<|ge pd8<|ge (.int pn9)<|ge (.int pn10)<|some [ab y0 1]:=by kernel_rfl
def F60_eq:=by have h:= @F60_e;simp only[aE,gd,aj,ai,ak,au,ar,aD,ap]at h;exact h
def q60:uAC:=veil (F60)
theorem q60_eq:q60=F60:=am _
def tb60:Tb:=Tb.addF Gy 60 S60 (q60)
theorem ok_tb60:TbOk env (tb60):=aI OS 60 (by kernel_rfl) _ (q60_eq)
def S49_n:FunS:=⟨[utP 0 0],[(.mp false 9 106),(.mp false 106 3),(.cells [ufN,ufN,ufS (.map 1),ufS (.map 2),utI,ufR 9,ufR 9,ufS (.int .u32),ufI,ufN,ufN])],[utI],[(.mp false 9 106),(.mp false 106 3),(.cells [utN,utN,utS (.map 1),utS (.map 2),utI,ufR 9,ufR 9,ufS (.int .u32),ufI,utN,utN])]⟩
def F49_n:uAC:=aN env tb60 60 12 49 S49_n
theorem F49_n_e (pd0:D) (pd1:D) (pd2:D) (pd3:D) (pn4:Int) (pn5:Int) (sn0:Int):F49_n [pd0,pd1,pd2,pd3,(D.int pn4),(D.int pn5),(D.int sn0)] =
 let x0:=D.int (aM .add .i64 sn0 1)
 ge pd0<|ge pd1<|ge pd2<|ge pd3<|ge (.int pn4)<|ge (.int pn5)<|some [x0,x0]:=by kernel_rfl
def F49_n_eq:=by have h:= @F49_n_e;simp only[aE,gd,aj,ai,ak,au,ar,aD,ap]at h;exact h
def RL:uAC:=veil (F49_n)
theorem KZ:RL=F49_n:=am _
def OT:Tb:=Tb.addF tb60 49 S49_n (RL)
theorem UU:TbOk env (OT):=aI ok_tb60 49 (by kernel_rfl) _ (KZ)
def S56_z_1:LoopS:=⟨7,ufP 0 0::uAA 5 (ufR 187::ufI::utI::uAA 7 []),[(.lst true 106),(.lst true 106),(.lst true 106),(.lst true 46), .skip, .skip,(.mp true 9 106),(.mp true 106 3), .skip, .skip,(.cells [ufO 7 46,ufO 8 106,ufS (.map 3),ufS (.map 4),utI,ufR 9,ufR 9,ufS (.int .u32),ufI,ufO 9 106,ufO 10 106])],[⟨0,0,uAB 6 (ufR 187::ufI::uAB 8 []),[(.lst true 106),(.lst true 106),(.lst true 106),(.lst true 46), .skip, .skip,(.mp true 9 106),(.mp true 106 3), .skip, .skip,(.cells [utO 7 46,utO 8 106,utS (.map 3),utS (.map 4),utI,ufR 9,ufR 9,ufS (.int .u32),ufI,utO 9 106,utO 10 106])]⟩]⟩
def qB (p s:List D):Option (Sum (List D) (List D)):=aO env OT 60 12 56 (bc 56 1) S56_z_1 p s
theorem OU (pd0:D) (pn1:Int) (pd2:D) (pd3:D) (pn4:Int) (pn5:Int) (sn0:Int) (sd1:D) (sd2:D) (sd3:D) (sd4:D) (sd5:D) (sd6:D) (sn7:Int):qB [pd0,(D.int pn1),pd2,pd3,(D.int pn4),(D.int pn5)] [(D.int sn0),sd1,sd2,sd3,sd4,sd5,sd6,(D.int sn7)] =
 let y0:=OE [pd2,pd3,(.int pn4),(.int pn5),(ax pd0 sn0),sd1,sd2,sd5,sd6,sd3,sd4,(.int sn7)]
 let x0:=ae .eql (ac sd4) (ac sd4)
 let x1:=ae .eql (ac sd3) (ac sd3)
 let x2:=ae .eql (ac sd2) (ac sd2)
 let x3:=ae .eql (ac sd1) (ac sd1)
 bif ae .lss sn0 pn1 then gd (aS pd0 sn0)<|gd x0<|gd x1<|gd x2<|gd x3<|gd (ao y0)<|gd (ae .eql (ac (ab y0 3)) (ac (ab y0 3)))<|gd (ae .eql (ac (ab y0 2)) (ac (ab y0 2)))<|gd (ae .eql (ac (ab y0 1)) (ac (ab y0 1)))<|gd (ae .eql (ac (ab y0 0)) (ac (ab y0 0)))<|ge pd0<|ge (.int pn1)<|ge pd2<|ge pd3<|ge (.int pn4)<|ge (.int pn5)<|some (Sum.inl [.int (aM .add .i64 sn0 1),ab y0 0,ab y0 1,ab y0 2,ab y0 3,ab y0 4,ab y0 5,.int (ah (ab y0 6))])else gd x0<|gd x1<|gd x2<|gd x3<|ge pd0<|ge (.int pn1)<|ge pd2<|ge pd3<|ge (.int pn4)<|ge (.int pn5)<|some (Sum.inr [.int 0,sd1,sd2,sd3,sd4,sd5,sd6,.int sn7]):=by kernel_rfl
def ux:=by have h:= @OU;simp only[aE,gd,aj,ai,ak,au,ar,aD,ap]at h;exact h
def Gz:List D->uAC:=veil fun p s=>loW (qB p) s
theorem A1:Gz=fun p s=>loW (qB p) s:=am _
def sM:Tb:=Tb.addL OT 56 1 S56_z_1.n0 (bL S56_z_1 (Gz))
theorem GA:TbOk env (sM):=aG UU 56 1 (by kernel_rfl) _ (A1)
def S56_z:FunS:=⟨[utP 0 0,utR 187],[(.lst true 106),(.lst true 106),(.mp true 9 106),(.mp true 106 3),(.lst true 106),(.lst true 46),(.cells [ufO 1 46,ufO 2 106,ufS (.map 3),ufS (.map 4),utI,ufR 9,ufR 9,ufS (.int .u32),ufI,ufO 5 106,ufO 6 106])],[utS (.tup [])],[(.lst true 106),(.lst true 106),(.lst true 106),(.lst true 46), .skip, .skip,(.mp true 9 106),(.mp true 106 3), .skip, .skip,(.cells [utO 7 46,utO 8 106,utS (.map 3),utS (.map 4),utI,ufR 9,ufR 9,ufS (.int .u32),ufI,utO 9 106,utO 10 106])]⟩
def F56_z:uAC:=aN env sM 60 12 56 S56_z
theorem F56_z_e (pd0:D) (pd1:D) (pn2:Int) (pn3:Int) (sd0:D) (sd1:D) (sd2:D) (sd3:D) (sd4:D) (sd5:D) (sd6:D) (sn7:Int):F56_z [pd0,pd1,(D.int pn2),(D.int pn3),sd0,sd1,sd2,sd3,sd4,sd5,sd6,(D.int sn7)] =
 let y0:=Gz [sd0,(.int (ac sd0)),pd0,pd1,(.int pn2),(.int pn3)] [(.int 0),sd1,sd2,sd5,sd6,sd3,sd4,(.int sn7)]
 gd (ae .eql (ac sd6) (ac sd6))<|gd (ae .eql (ac sd5) (ac sd5))<|gd (ae .eql (ac sd2) (ac sd2))<|gd (ae .eql (ac sd1) (ac sd1))<|gd (ao y0)<|gd (ae .eql (ac (ab y0 4)) (ac (ab y0 4)))<|gd (ae .eql (ac (ab y0 3)) (ac (ab y0 3)))<|gd (ae .eql (ac (ab y0 2)) (ac (ab y0 2)))<|gd (ae .eql (ac (ab y0 1)) (ac (ab y0 1)))<|ge pd0<|ge pd1<|ge (.int pn2)<|ge (.int pn3)<|some [ab y0 1,ab y0 2,ab y0 3,ab y0 4,ab y0 5,ab y0 6,.int (ah (ab y0 7))]:=by kernel_rfl
def F56_z_eq:=by have h:= @F56_z_e;simp only[aE,gd,aj,ai,ak,au,ar,aD,ap]at h;exact h
def K0:uAC:=veil (F56_z)
theorem K3:K0=F56_z:=am _
def OV:Tb:=Tb.addF sM 56 S56_z (K0)
theorem UV:TbOk env (OV):=aI GA 56 (by kernel_rfl) _ (K3)
def S17_6:LoopS:=⟨0,uF::uF::ufR 9::ufS (.int .u32)::ufP 0 0::uF::uF::uF::ufN::ufN::ufZ::uF::ufO 1 9::uAA 16 (ufR 65::ufI::utI::uAA 78 []),[(.lst true 9),(.dat false 38)],[⟨0,0,uT::uT::ufR 9::ufS (.int .u32)::utP 0 0::uT::uT::uT::utN::utN::utZ::uT::utR 9::uAB 16 (ufR 65::ufI::uAB 79 []),[(.lst true 9),(.dat false 38)]⟩]⟩
def GB (p s:List D):Option (Sum (List D) (List D)):=aO env OV 60 12 17 (bc 17 6) S17_6 p s
theorem st17_6_e (pd0:D) (pn1:Int) (pd2:D) (pn3:Int) (pd4:D) (sn0:Int) (sd1:D):GB [pd0,(D.int pn1),pd2,(D.int pn3),pd4] [(D.int sn0),sd1] =
 let y0:=ac (bt sd1 (.list [(.str (aC (aa (ax pd2 sn0) 0)))]))
 let x0:=ae .eql (ac sd1) (ac sd1)
 bif ae .lss sn0 pn3 then gd (aS pd2 sn0)<|gd x0<|gd (ci y0 16)<|gd (ae .eql y0 y0)<|ge pd0<|ge (.int pn1)<|ge pd2<|ge (.int pn3)<|ge pd4<|some (Sum.inl [.int (aM .add .i64 sn0 1),bt sd1 (.list [.str (aC (aa (ax pd2 sn0) 0))])])else gd x0<|ge pd0<|ge (.int pn1)<|ge pd2<|ge (.int pn3)<|ge pd4<|some (Sum.inr [.int 0,sd1,.list []]):=by kernel_rfl
def DD:=by have h:= @st17_6_e;simp only[aE,gd,aj,ai,ak,au,ar,aD,ap]at h;exact h
def RM:List D->uAC:=veil fun p s=>loW (GB p) s
theorem K4:RM=fun p s=>loW (GB p) s:=am _
def GC:Tb:=Tb.addL OV 17 6 S17_6.n0 (bL S17_6 (RM))
theorem OW:TbOk env (GC):=aG UV 17 6 (by kernel_rfl) _ (K4)
def S17_13:LoopS:=⟨0,uF::uF::uF::uF::ufP 0 0::uF::uF::uF::ufN::ufN::ufZ::uF::uF::uF::uF::ufP 1 0::uAA 35 (ufR 65::ufI::utI::uAA 56 []),[(.lst false 106),(.lst false 106),(.mp false 9 106),(.mp false 106 3),(.lst true 106),(.lst true 46),(.cells [ufO 2 46,ufO 3 106,ufS (.map 4),ufS (.map 5),ufI,ufR 9,ufR 9,ufS (.int .u32),ufI,ufO 6 106,ufO 7 106]),(.dat false 38)],[⟨0,2,uT::uT::uT::uT::utP 0 0::uT::uT::uT::utN::utN::utZ::uT::uT::uT::uT::utP 1 0::uAB 35 (ufR 65::ufI::uAB 57 []),[(.lst false 106),(.lst false 106),(.mp false 9 106),(.mp false 106 3),(.lst true 106),(.lst true 46),(.cells [utO 2 46,utO 3 106,utS (.map 4),utS (.map 5),ufI,ufR 9,ufR 9,ufS (.int .u32),ufI,utO 6 106,utO 7 106]),(.dat false 38)]⟩]⟩
def vY (p s:List D):Option (Sum (List D) (List D)):=aO env GC 60 12 17 (bc 17 13) S17_13 p s
theorem UW (pd0:D) (pn1:Int) (pd2:D) (pd3:D) (pd4:D) (pd5:D) (pn6:Int) (pd7:D) (pd8:D) (pn9:Int) (pn10:Int) (pd11:D) (sn0:Int) (sd1:D) (sd2:D):vY [pd0,(D.int pn1),pd2,pd3,pd4,pd5,(D.int pn6),pd7,pd8,(D.int pn9),(D.int pn10),pd11] [(D.int sn0),sd1,sd2] =
 let y0:=q51 [pd2,pd3,pd4,pd5,sd1,sd2,(.int pn6),pd7,pd8,(.int pn9),(.int pn10),(.str (aC (aa (ax pd0 sn0) 0)))]
 let y1:=q50 [pd2,pd3,pd4,pd5,(.int pn6),pd7,pd8,(.int pn9),(.int pn10),(.list [(.agg [(.int (ah (aa (ab y0 0) 0))),(.int (ah (aa (ab y0 0) 1))),(.int (ah (aa (ab y0 0) 2))),(.int (ah (aa (ab y0 0) 3))),(.int (ah (aa (ab y0 0) 4))),(.int (ah (aa (ab y0 0) 5))),(.int (ah (aa (ab y0 0) 6))),(.int (ah (aa (ab y0 0) 7))),(.int (ah (aa (ab y0 0) 8)))]),(.agg [(.int 0),(.int 0),(.int 16),(.int 0),(.int 4),(.int 0),(.int 0),(.int 2),(.int 0)]),(.agg [(.int 0),(.int 0),(.int 3),(.int 0),(.int 0),(.int 0),(.int 0),(.int 0),(.int 0)]),(.agg [(.int 0),(.int 0),(.int 5),(.int 1),(.int 0),(.int 0),(.int 0),(.int 0),(.int 0)]),(.agg [(.int 0),(.int 0),(.int 18),(.int 0),(.int 4),(.int 0),(.int 0),(.int 2),(.int 0)])]),sd1,sd2]
 let x0:=ae .eql (ac sd2) (ac sd2)
 let x1:=ae .eql (ac sd1) (ac sd1)
 let x2:=ae .eql (ac pd3) (ac pd3)
 let x3:=ae .eql (ac pd2) (ac pd2)
 bif ae .lss sn0 pn1 then gd (aS pd0 sn0)<|gd x0<|gd x1<|gd x2<|gd x3<|gd (ao y0)<|gd x0<|gd x1<|gd x2<|gd x3<|gd (ao y1)<|gd (ae .eql (ac (ab y1 1)) (ac (ab y1 1)))<|gd (ae .eql (ac (ab y1 0)) (ac (ab y1 0)))<|gd x2<|gd x3<|ge pd0<|ge (.int pn1)<|ge pd2<|ge pd3<|ge pd4<|ge pd5<|ge (.int pn6)<|ge pd7<|ge pd8<|ge (.int pn9)<|ge (.int pn10)<|ge pd11<|some (Sum.inl [.int (aM .add .i64 sn0 1),ab y1 0,ab y1 1])else gd x0<|gd x1<|gd x2<|gd x3<|ge pd0<|ge (.int pn1)<|ge pd2<|ge pd3<|ge pd4<|ge pd5<|ge (.int pn6)<|ge pd7<|ge pd8<|ge (.int pn9)<|ge (.int pn10)<|ge pd11<|some (Sum.inr [.int 0,sd1,sd2]):=by kernel_rfl
def A2:=by have h:= @UW;simp only[aE,gd,aj,ai,ak,au,ar,aD,ap]at h;exact h
def GD:List D->uAC:=veil fun p s=>loW (vY p) s
theorem DE:GD=fun p s=>loW (vY p) s:=am _
def A3:Tb:=Tb.addL GC 17 13 S17_13.n0 (bL S17_13 (GD))
theorem K5:TbOk env (A3):=aG OW 17 13 (by kernel_rfl) _ (DE)
def S17_20:LoopS:=⟨0,uF::uF::uF::uF::ufP 0 0::uF::uF::uF::ufN::ufN::ufZ::uF::uF::uF::uF::ufP 1 0::uF::uF::utI::uAA 91 [],[(.lst false 106),(.lst false 106),(.mp false 9 106),(.mp false 106 3),(.lst true 106),(.lst true 46),(.cells [ufO 2 46,ufO 3 106,ufS (.map 4),ufS (.map 5),ufI,ufR 9,ufR 9,ufS (.int .u32),ufI,ufO 6 106,ufO 7 106]),(.dat false 38)],[⟨0,4,uAB 8 (utN::utN::utZ::uT::uT::uT::uT::utP 1 0::uAB 94 []),[(.lst false 106),(.lst false 106),(.mp false 9 106),(.mp false 106 3),(.lst true 106),(.lst true 46),(.cells [utO 2 46,utO 3 106,utS (.map 4),utS (.map 5),ufI,ufR 9,ufR 9,ufS (.int .u32),ufI,utO 6 106,utO 7 106]),(.dat false 38)]⟩]⟩
def vZ (p s:List D):Option (Sum (List D) (List D)):=aO env A3 60 12 17 (bc 17 20) S17_20 p s
theorem UX (pd0:D) (pd1:D) (pd2:D) (pd3:D) (pn4:Int) (pd5:D) (pd6:D) (pn7:Int) (pn8:Int) (pd9:D) (sn0:Int) (sd1:D) (sd2:D):vZ [pd0,pd1,pd2,pd3,(D.int pn4),pd5,pd6,(D.int pn7),(D.int pn8),pd9] [(D.int sn0),sd1,sd2] =
 let y0:=q50 [pd0,pd1,pd2,pd3,(.int pn4),pd5,pd6,(.int pn7),(.int pn8),(.list [(.agg [(.int 0),(.int 0),(.int 4),(.int 0),(.int 0),(.int 0),(.int 0),(.int 0),(.int 0)])]),sd1,sd2]
 let y1:=q59 [pd0,pd1,pd2,pd3,(.int pn4),pd5,pd6,(.int pn7),(.int pn8),(.str (aC (aa (ax (aa pd9 1) sn0) 0))),(ab y0 0),(ab y0 1)]
 let x0:=ae .eql (ac sd2) (ac sd2)
 let x1:=ae .eql (ac sd1) (ac sd1)
 let x2:=ae .eql (ac pd1) (ac pd1)
 let x3:=ae .eql (ac pd0) (ac pd0)
 let x4:=ac (ab y0 1)
 let x5:=ac (ab y0 0)
 bif ae .geq sn0 0 then gd x0<|gd x1<|gd x2<|gd x3<|gd (ao y0)<|gd (aS (aa pd9 1) sn0)<|gd (ae .eql x4 x4)<|gd (ae .eql x5 x5)<|gd x2<|gd x3<|gd (ao y1)<|gd (ae .eql (ac (ab y1 1)) (ac (ab y1 1)))<|gd (ae .eql (ac (ab y1 0)) (ac (ab y1 0)))<|gd x2<|gd x3<|ge pd0<|ge pd1<|ge pd2<|ge pd3<|ge (.int pn4)<|ge pd5<|ge pd6<|ge (.int pn7)<|ge (.int pn8)<|ge pd9<|some (Sum.inl [.int (aM .sub .i64 sn0 1),ab y1 0,ab y1 1])else gd x0<|gd x1<|gd x2<|gd x3<|ge pd0<|ge pd1<|ge pd2<|ge pd3<|ge (.int pn4)<|ge pd5<|ge pd6<|ge (.int pn7)<|ge (.int pn8)<|ge pd9<|some (Sum.inr [.int 0,sd1,sd2]):=by kernel_rfl
def A4:=by have h:= @UX;simp only[aE,gd,aj,ai,ak,au,ar,aD,ap]at h;exact h
def GE:List D->uAC:=veil fun p s=>loW (vZ p) s
theorem DF:GE=fun p s=>loW (vZ p) s:=am _
def A5:Tb:=Tb.addL A3 17 20 S17_20.n0 (bL S17_20 (GE))
theorem K6:TbOk env (A5):=aG K5 17 20 (by kernel_rfl) _ (DF)
def S17:FunS:=⟨[utD 38,utR 9,utR 9,utS (.int .u32)],[],[utS (.tup [(.rows 46),(.rows 3),(.int .i64)])],[]⟩
def F17:uAC:=aN env A5 60 12 17 S17
theorem F17_e (sd0:D) (sd1:D) (sd2:D) (sn3:Int):F17 [sd0,sd1,sd2,(D.int sn3)] =
 let y0:=ah (ab (q47 [sd0,sd1,sd2]) 0)
 let y1:=ae .eql (ac (ab (q48 [sd1]) 0)) (ac (ab (q48 [sd1]) 0))
 let y2:=RM [sd2,(.int sn3),(aa sd0 1),(.int (ac (aa sd0 1))),sd0] [(.int 0),(ab (q48 [sd1]) 0)]
 let y3:=RL [(.list []),(.list []),(ab y2 1),sd2,(.int sn3),(.int 0),(.int 0)]
 let y4:=GD [(aa sd0 1),(.int (ac (aa sd0 1))),(.list []),(.list []),(.list []),(.list []),(.int (ah (ab y3 1))),(ab y2 1),sd2,(.int sn3),(.int (ah (ab y3 0))),sd0] [(.int 0),(.list []),(.list [])]
 let y5:=K0 [(ab y2 1),sd2,(.int sn3),(.int (ah (ab y3 0))),(aa sd0 2),(.list []),(.list []),(.list []),(.list []),(ab y4 1),(ab y4 2),(.int (ah (ab y3 1)))]
 let y6:=q57 [(ab y5 0),(ab y5 1),(ab y5 4),(ab y5 2),(ab y5 3),(.int (ah (ab y5 6))),(ab y2 1),sd2,(.int sn3),(.int (ah (ab y3 0))),(.int (ah (ab y3 0))),(ab y5 5)]
 let y7:=GE [(ab y5 0),(ab y5 1),(ab y5 4),(ab y6 0),(.int (ah (ab y5 6))),(ab y2 1),sd2,(.int sn3),(.int (ah (ab y3 0))),sd0] [(.int (aM .sub .i64 (ac (aa sd0 1)) 1)),(ab y5 2),(ab y5 3)]
 let y8:=q50 [(ab y5 0),(ab y5 1),(ab y5 4),(ab y6 0),(.int (ah (ab y5 6))),(ab y2 1),sd2,(.int sn3),(.int (ah (ab y3 0))),(.list [(.agg [(.int 0),(.int 0),(.int 2),(.int 0),(.int 0),(.int 0),(.int 0),(.int 0),(.int 0)])]),(ab y7 1),(ab y7 2)]
 let y9:=q60 [(ab y5 0),(ab y5 1),(ab y5 4),(ab y6 0),(ab y8 0),(ab y8 1),(.int (ah (ab y5 6))),(ab y2 1),sd2,(.int sn3),(.int (ah (ab y3 0)))]
 let y10:=cz (ae .eql (ac (ab y5 1)) (ac (ab y5 1))) (ae .eql (ac (ab y5 0)) (ac (ab y5 0)))
 let y11:=cz (ae .eql (ah (ab y3 0)) (ah (ab y3 0))) y10
 let y12:=cz (f8 (ab y2 1) (ab y2 1)) (cz (f8 sd2 sd2) (cz (ae .eql sn3 sn3) y11))
 let y13:=cz (ae .eql (ah (ab y5 6)) (ah (ab y5 6))) y12
 let y14:=cz (ae .eql (ac (ab y8 0)) (ac (ab y8 0))) y13
 let y15:=cz (ae .eql (ac (ab y8 1)) (ac (ab y8 1))) y14
 let x0:=D.list []
 let x1:=ac x0
 let x2:=ae .eql 0 x1
 let x3:=ac (ab y4 2)
 let x4:=ac (ab y4 1)
 let x5:=ae .eql x1 x1
 let x6:=ac (ab y5 3)
 let x7:=ae .eql x6 x6
 let x8:=ac (ab y5 2)
 let x9:=ae .eql x8 x8
 let x10:=ac (ab y5 1)
 let x11:=ae .eql x10 x10
 let x12:=ac (ab y5 0)
 let x13:=ae .eql x12 x12
 let x14:=ac (ab y7 2)
 let x15:=ac (ab y7 1)
 let x16:=ae .eql (ac (ab y8 1)) (ac (ab y8 1))
 let x17:=ac (ab y8 0)
 gd (ao (q47 [sd0,sd1,sd2]))<|bif ae .neq y0 0 then some [x0,x0,.int y0]else gd (ao (q48 [sd1]))<|gd y1<|gd (ao y2)<|gd (ao y3)<|gd x2<|gd x2<|gd x2<|gd x2<|gd (ao y4)<|gd (ae .eql x3 x3)<|gd (ae .eql x4 x4)<|gd x5<|gd x5<|gd (ao y5)<|gd x7<|gd x9<|gd x11<|gd x13<|gd (ao y6)<|gd x7<|gd x9<|gd x11<|gd x13<|gd (ao y7)<|gd (ae .eql x14 x14)<|gd (ae .eql x15 x15)<|gd x11<|gd x13<|gd (ao y8)<|gd x16<|gd (ae .eql x17 x17)<|gd x11<|gd x13<|gd (ao y9)<|gd y15<|gd x16<|gd (ae .eql (ac (ab y9 0)) (ac (ab y9 0)))<|some [ab y8 1,ab y9 0,.int 0]:=by kernel_rfl
def F17_eq:=by have h:= @F17_e;simp only[aE,gd,aj,ai,ak,au,ar,aD,ap]at h;exact h
def q17:uAC:=veil (F17)
theorem OX:q17=F17:=am _
def tb17:Tb:=Tb.addF A5 17 S17 (q17)
theorem ok_tb17:TbOk env (tb17):=aI K6 17 (by kernel_rfl) _ (OX)
def S62_n:FunS:=⟨[utP 0 0],[(.cells [ufN,ufN,ufN,ufN,ufR 9,ufR 9,ufS (.int .u32),ufI])],[utI],[(.cells [utZ]),(.cells [utN,utN,utS (.sl 1 1 0 1),utN,ufR 9,ufR 9,ufS (.int .u32),ufI])]⟩
def F62_n:uAC:=aN env tb17 60 12 62 S62_n
theorem F62_n_e (pd0:D) (pd1:D) (pn2:Int) (pn3:Int):F62_n [pd0,pd1,(D.int pn2),(D.int pn3)] =
 (ge pd0<|ge pd1<|ge (.int pn2)<|ge (.int pn3)<|some [.int 0]):=by kernel_rfl
def F62_n_eq:=by have h:= @F62_n_e;simp only[aE,gd,aj,ai,ak,au,ar,aD,ap]at h;exact h
def RN:uAC:=veil (F62_n)
theorem K7:RN=F62_n:=am _
def OY:Tb:=Tb.addF tb17 62 S62_n (RN)
theorem UY:TbOk env (OY):=aI ok_tb17 62 (by kernel_rfl) _ (K7)
def S66_z_1:LoopS:=⟨5,ufP 0 0::ufR 187::ufI::ufI::uF::uF::uF::uF::utI::uAA 14 [],[(.lst true 288),(.lst true 3),(.lst true 3),(.lst true 46), .skip, .skip, .skip, .skip,(.cells [ufO 5 46,ufO 6 3,ufO 7 3,ufO 8 288,ufR 9,ufR 9,ufS (.int .u32),ufI])],[⟨0,0,uT::ufR 187::ufI::ufI::uAB 19 [],[(.lst true 288),(.lst true 3),(.lst true 3),(.lst true 46), .skip, .skip, .skip, .skip,(.cells [utO 5 46,utO 6 3,utO 7 3,utO 8 288,ufR 9,ufR 9,ufS (.int .u32),ufI])]⟩]⟩
def qC (p s:List D):Option (Sum (List D) (List D)):=aO env OY 60 12 66 (bc 66 1) S66_z_1 p s
theorem OZ (pd0:D) (pn1:Int) (pn2:Int) (pd3:D) (pd4:D) (pn5:Int) (pn6:Int) (sn0:Int) (sd1:D) (sd2:D) (sd3:D) (sd4:D):qC [pd0,(D.int pn1),(D.int pn2),pd3,pd4,(D.int pn5),(D.int pn6)] [(D.int sn0),sd1,sd2,sd3,sd4] =
 let y0:=OR [pd3,pd4,(.int pn5),(.int pn6),(ax pd0 sn0),(.int pn1),(.int pn2),sd1,sd2,sd3,sd4]
 let x0:=ae .eql (ac sd4) (ac sd4)
 let x1:=ae .eql (ac sd3) (ac sd3)
 let x2:=ae .eql (ac sd2) (ac sd2)
 let x3:=ae .eql (ac sd1) (ac sd1)
 bif ae .lss sn0 (ac pd0)then gd (aS pd0 sn0)<|gd x0<|gd x1<|gd x2<|gd x3<|gd (ao y0)<|gd (ae .eql (ac (ab y0 3)) (ac (ab y0 3)))<|gd (ae .eql (ac (ab y0 2)) (ac (ab y0 2)))<|gd (ae .eql (ac (ab y0 1)) (ac (ab y0 1)))<|gd (ae .eql (ac (ab y0 0)) (ac (ab y0 0)))<|ge pd0<|ge (.int pn1)<|ge (.int pn2)<|ge pd3<|ge pd4<|ge (.int pn5)<|ge (.int pn6)<|some (Sum.inl [.int (aM .add .i64 sn0 1),ab y0 0,ab y0 1,ab y0 2,ab y0 3])else gd x0<|gd x1<|gd x2<|gd x3<|ge pd0<|ge (.int pn1)<|ge (.int pn2)<|ge pd3<|ge pd4<|ge (.int pn5)<|ge (.int pn6)<|some (Sum.inr [.int 0,sd1,sd2,sd3,sd4]):=by kernel_rfl
def uy:=by have h:= @OZ;simp only[aE,gd,aj,ai,ak,au,ar,aD,ap]at h;exact h
def GF:List D->uAC:=veil fun p s=>loW (qC p) s
theorem A6:GF=fun p s=>loW (qC p) s:=am _
def sN:Tb:=Tb.addL OY 66 1 S66_z_1.n0 (bL S66_z_1 (GF))
theorem GG:TbOk env (sN):=aG UY 66 1 (by kernel_rfl) _ (A6)
def S66_z:FunS:=⟨[utP 0 0,utR 187,utI,utI],[(.lst true 288),(.lst true 3),(.lst true 3),(.lst true 46),(.cells [ufO 1 46,ufO 2 3,ufO 3 3,ufO 4 288,ufR 9,ufR 9,ufS (.int .u32),ufI])],[utS (.tup [])],[(.lst true 288),(.lst true 3),(.lst true 3),(.lst true 46), .skip, .skip, .skip, .skip,(.cells [utO 5 46,utO 6 3,utO 7 3,utO 8 288,ufR 9,ufR 9,ufS (.int .u32),ufI])]⟩
def F66_z:uAC:=aN env sN 60 12 66 S66_z
theorem F66_z_e (pd0:D) (pd1:D) (pn2:Int) (pn3:Int) (sd0:D) (sn1:Int) (sn2:Int) (sd3:D) (sd4:D) (sd5:D) (sd6:D):F66_z [pd0,pd1,(D.int pn2),(D.int pn3),sd0,(D.int sn1),(D.int sn2),sd3,sd4,sd5,sd6] =
 let y0:=GF [sd0,(.int sn1),(.int sn2),pd0,pd1,(.int pn2),(.int pn3)] [(.int 0),sd3,sd4,sd5,sd6]
 gd (ae .eql (ac sd6) (ac sd6))<|gd (ae .eql (ac sd5) (ac sd5))<|gd (ae .eql (ac sd4) (ac sd4))<|gd (ae .eql (ac sd3) (ac sd3))<|gd (ao y0)<|gd (ae .eql (ac (ab y0 4)) (ac (ab y0 4)))<|gd (ae .eql (ac (ab y0 3)) (ac (ab y0 3)))<|gd (ae .eql (ac (ab y0 2)) (ac (ab y0 2)))<|gd (ae .eql (ac (ab y0 1)) (ac (ab y0 1)))<|ge pd0<|ge pd1<|ge (.int pn2)<|ge (.int pn3)<|some [ab y0 1,ab y0 2,ab y0 3,ab y0 4]:=by kernel_rfl
def F66_z_eq:=by have h:= @F66_z_e;simp only[aE,gd,aj,ai,ak,au,ar,aD,ap]at h;exact h
def K8:uAC:=veil (F66_z)
theorem K9:K8=F66_z:=am _
def O0:Tb:=Tb.addF sN 66 S66_z (K8)
theorem UZ:TbOk env (O0):=aI GG 66 (by kernel_rfl) _ (K9)
def S18_7:LoopS:=⟨0,uF::uF::ufR 9::ufS (.int .u32)::ufP 0 0::uF::uF::uF::ufN::ufN::ufZ::uF::ufO 1 9::utI::uAA 150 [],[(.lst true 9),(.dat false 38)],[⟨0,0,uT::uT::ufR 9::ufS (.int .u32)::utP 0 0::uT::uT::uT::utN::utN::utZ::uT::utR 9::uAB 151 [],[(.lst true 9),(.dat false 38)]⟩]⟩
def GH (p s:List D):Option (Sum (List D) (List D)):=aO env O0 60 12 18 (bc 18 7) S18_7 p s
theorem st18_7_e (pd0:D) (pn1:Int) (pd2:D) (sn0:Int) (sd1:D):GH [pd0,(D.int pn1),pd2] [(D.int sn0),sd1] =
 let y0:=bt sd1 (.list [(.str (aC (aa (ax (aa pd2 1) sn0) 0)))])
 let x0:=ae .eql (ac sd1) (ac sd1)
 let x1:=ac y0
 bif ae .lss sn0 (ac (aa pd2 1))then gd (aS (aa pd2 1) sn0)<|gd x0<|gd (ci x1 16)<|gd (ae .eql x1 x1)<|ge pd0<|ge (.int pn1)<|ge pd2<|some (Sum.inl [.int (aM .add .i64 sn0 1),y0])else gd x0<|ge pd0<|ge (.int pn1)<|ge pd2<|some (Sum.inr [.int 0,sd1,.list []]):=by kernel_rfl
def DG:=by have h:= @st18_7_e;simp only[aE,gd,aj,ai,ak,au,ar,aD,ap]at h;exact h
def RO:List D->uAC:=veil fun p s=>loW (GH p) s
theorem Lb:RO=fun p s=>loW (GH p) s:=am _
def GI:Tb:=Tb.addL O0 18 7 S18_7.n0 (bL S18_7 (RO))
theorem O1:TbOk env (GI):=aG UZ 18 7 (by kernel_rfl) _ (Lb)
def S18_13:LoopS:=⟨0,uF::uF::uF::uF::ufP 0 0::uF::uF::uF::ufN::ufN::ufZ::uF::uF::uF::ufP 1 0::utI::uAA 148 [],[(.lst false 288),(.lst false 3),(.lst true 3),(.lst true 46),(.cells [ufO 2 46,ufO 3 3,ufO 4 3,ufO 5 288,ufR 9,ufR 9,ufS (.int .u32),ufI]),(.dat false 38)],[⟨0,2,uT::uT::uT::uT::utP 0 0::uT::uT::uT::utN::utN::utZ::uT::uT::uT::utP 1 0::uAB 149 [],[(.lst false 288),(.lst false 3),(.lst true 3),(.lst true 46),(.cells [utO 2 46,utO 3 3,utO 4 3,utO 5 288,ufR 9,ufR 9,ufS (.int .u32),ufI]),(.dat false 38)]⟩]⟩
def v6 (p s:List D):Option (Sum (List D) (List D)):=aO env GI 60 12 18 (bc 18 13) S18_13 p s
theorem U0 (pd0:D) (pd1:D) (pd2:D) (pd3:D) (pn4:Int) (pn5:Int) (pd6:D) (sn0:Int) (sd1:D) (sd2:D):v6 [pd0,pd1,pd2,pd3,(D.int pn4),(D.int pn5),pd6] [(D.int sn0),sd1,sd2] =
 let y0:=q63 [pd0,pd1,pd2,pd3,(.int pn4),(.int pn5),(.str (aC (aa (ax (aa pd6 1) sn0) 0))),sd1,sd2]
 let y1:=q64 [pd0,pd1,pd2,pd3,(.int pn4),(.int pn5),(.agg [(.int 0),(.int 0),(.int 16),(.int 0),(.int 4),(.int 0),(.int 0),(.int 2),(.int 0)]),(ab y0 0),(ab y0 1)]
 let y2:=q64 [pd0,pd1,pd2,pd3,(.int pn4),(.int pn5),(.agg [(.int 0),(.int 0),(.int 3),(.int 0),(.int 0),(.int 0),(.int 0),(.int 0),(.int 0)]),(ab y1 0),(ab y1 1)]
 let y3:=q65 [pd0,pd1,pd2,pd3,(.int pn4),(.int pn5),(.int 5),(.int 0),(.int 0),(ab y2 0),(ab y2 1)]
 let y4:=q64 [pd0,pd1,pd2,pd3,(.int pn4),(.int pn5),(.agg [(.int 0),(.int 0),(.int 18),(.int 0),(.int 4),(.int 0),(.int 0),(.int 2),(.int 0)]),(ab y3 0),(ab y3 1)]
 let x0:=ae .eql (ac sd2) (ac sd2)
 let x1:=ae .eql (ac sd1) (ac sd1)
 let x2:=ae .eql (ac pd1) (ac pd1)
 let x3:=ae .eql (ac pd0) (ac pd0)
 let x4:=ac (ab y0 1)
 let x5:=ac (ab y0 0)
 let x6:=ac (ab y1 1)
 let x7:=ac (ab y1 0)
 let x8:=ac (ab y2 1)
 let x9:=ac (ab y2 0)
 let x10:=ac (ab y3 1)
 let x11:=ac (ab y3 0)
 bif ae .lss sn0 (ac (aa pd6 1))then gd (aS (aa pd6 1) sn0)<|gd x0<|gd x1<|gd x2<|gd x3<|gd (ao y0)<|gd (ae .eql x4 x4)<|gd (ae .eql x5 x5)<|gd x2<|gd x3<|gd (ao y1)<|gd (ae .eql x6 x6)<|gd (ae .eql x7 x7)<|gd x2<|gd x3<|gd (ao y2)<|gd (ae .eql x8 x8)<|gd (ae .eql x9 x9)<|gd x2<|gd x3<|gd (ao y3)<|gd (ae .eql x10 x10)<|gd (ae .eql x11 x11)<|gd x2<|gd x3<|gd (ao y4)<|gd (ae .eql (ac (ab y4 1)) (ac (ab y4 1)))<|gd (ae .eql (ac (ab y4 0)) (ac (ab y4 0)))<|gd x2<|gd x3<|ge pd0<|ge pd1<|ge pd2<|ge pd3<|ge (.int pn4)<|ge (.int pn5)<|ge pd6<|some (Sum.inl [.int (aM .add .i64 sn0 1),ab y4 0,ab y4 1])else gd x0<|gd x1<|gd x2<|gd x3<|ge pd0<|ge pd1<|ge pd2<|ge pd3<|ge (.int pn4)<|ge (.int pn5)<|ge pd6<|some (Sum.inr [.int 0,sd1,sd2]):=by kernel_rfl
def A7:=by have h:= @U0;simp only[aE,gd,aj,ai,ak,au,ar,aD,ap]at h;exact h
def GJ:List D->uAC:=veil fun p s=>loW (v6 p) s
theorem DH:GJ=fun p s=>loW (v6 p) s:=am _
def A8:Tb:=Tb.addL GI 18 13 S18_13.n0 (bL S18_13 (GJ))
theorem Lc:TbOk env (A8):=aG O1 18 13 (by kernel_rfl) _ (DH)
def S18_23:LoopS:=⟨0,uF::uF::uF::uF::ufP 0 0::uF::uF::uF::ufN::ufN::ufZ::uF::uF::uF::ufP 1 0::uF::utI::uAA 147 [],[(.lst false 288),(.lst false 3),(.lst true 3),(.lst true 46),(.cells [ufO 2 46,ufO 3 3,ufO 4 3,ufO 5 288,ufR 9,ufR 9,ufS (.int .u32),ufI]),(.dat false 38)],[⟨0,4,uAB 8 (utN::utN::utZ::uT::uT::uT::utP 1 0::uAB 149 []),[(.lst false 288),(.lst false 3),(.lst true 3),(.lst true 46),(.cells [utO 2 46,utO 3 3,utO 4 3,utO 5 288,ufR 9,ufR 9,ufS (.int .u32),ufI]),(.dat false 38)]⟩]⟩
def v7 (p s:List D):Option (Sum (List D) (List D)):=aO env A8 60 12 18 (bc 18 23) S18_23 p s
theorem U1 (pd0:D) (pd1:D) (pd2:D) (pd3:D) (pn4:Int) (pn5:Int) (pd6:D) (sn0:Int) (sd1:D) (sd2:D):v7 [pd0,pd1,pd2,pd3,(D.int pn4),(D.int pn5),pd6] [(D.int sn0),sd1,sd2] =
 let y0:=q64 [pd0,pd1,pd2,pd3,(.int pn4),(.int pn5),(.agg [(.int 0),(.int 0),(.int 4),(.int 0),(.int 0),(.int 0),(.int 0),(.int 0),(.int 0)]),sd1,sd2]
 let y1:=q68 [pd0,pd1,pd2,pd3,(.int pn4),(.int pn5),(.str (aC (aa (ax (aa pd6 1) sn0) 0))),(ab y0 0),(ab y0 1)]
 let x0:=ae .eql (ac sd2) (ac sd2)
 let x1:=ae .eql (ac sd1) (ac sd1)
 let x2:=ae .eql (ac pd1) (ac pd1)
 let x3:=ae .eql (ac pd0) (ac pd0)
 let x4:=ac (ab y0 1)
 let x5:=ac (ab y0 0)
 bif ae .geq sn0 0 then gd x0<|gd x1<|gd x2<|gd x3<|gd (ao y0)<|gd (aS (aa pd6 1) sn0)<|gd (ae .eql x4 x4)<|gd (ae .eql x5 x5)<|gd x2<|gd x3<|gd (ao y1)<|gd (ae .eql (ac (ab y1 1)) (ac (ab y1 1)))<|gd (ae .eql (ac (ab y1 0)) (ac (ab y1 0)))<|gd x2<|gd x3<|ge pd0<|ge pd1<|ge pd2<|ge pd3<|ge (.int pn4)<|ge (.int pn5)<|ge pd6<|some (Sum.inl [.int (aM .sub .i64 sn0 1),ab y1 0,ab y1 1])else gd x0<|gd x1<|gd x2<|gd x3<|ge pd0<|ge pd1<|ge pd2<|ge pd3<|ge (.int pn4)<|ge (.int pn5)<|ge pd6<|some (Sum.inr [.int 0,sd1,sd2]):=by kernel_rfl
def A9:=by have h:= @U1;simp only[aE,gd,aj,ai,ak,au,ar,aD,ap]at h;exact h
def GK:List D->uAC:=veil fun p s=>loW (v7 p) s
theorem DJ:GK=fun p s=>loW (v7 p) s:=am _
def Ba:Tb:=Tb.addL A8 18 23 S18_23.n0 (bL S18_23 (GK))
theorem Ld:TbOk env (Ba):=aG Lc 18 23 (by kernel_rfl) _ (DJ)
def S18_29:LoopS:=⟨0,uAA 8 (ufN::ufN::ufZ::uF::uF::uF::ufP 0 0::uF::uF::utI::uAA 146 []),[(.lst false 288),(.lst false 3),(.lst true 3),(.lst false 46),(.cells [ufO 1 46,ufO 2 3,ufO 3 3,ufO 4 288,ufR 9,ufR 9,ufS (.int .u32),ufI])],[⟨0,6,uAB 8 (utN::utN::utZ::uT::uT::uT::utP 0 0::uAB 149 []),[(.lst false 288),(.lst false 3),(.lst true 3),(.lst false 46),(.cells [utO 1 46,utO 2 3,utO 3 3,utO 4 288,ufR 9,ufR 9,ufS (.int .u32),ufI])]⟩]⟩
def v8 (p s:List D):Option (Sum (List D) (List D)):=aO env Ba 60 12 18 (bc 18 29) S18_29 p s
theorem U2 (pd0:D) (pd1:D) (pd2:D) (pd3:D) (pd4:D) (pn5:Int) (pn6:Int) (sn0:Int) (sd1:D):v8 [pd0,pd1,pd2,pd3,pd4,(D.int pn5),(D.int pn6)] [(D.int sn0),sd1] =
 let y0:=Bs sd1 sn0 (.int (ah (ax pd1 (ah (ax sd1 sn0)))))
 let x0:=ac sd1
 let x1:=ae .lss sn0 x0
 let x2:=ae .leq 0 sn0
 let x3:=aS sd1 sn0
 let x4:=ah (ax sd1 sn0)
 let x5:=ac pd1
 let x6:=ae .eql (ac pd2) (ac pd2)
 let x7:=ae .eql x5 x5
 let x8:=ae .eql (ac pd0) (ac pd0)
 let x9:=D.int pn5
 let x10:=D.int pn6
 let x11:=D.int (aM .add .i64 sn0 1)
 let x12:=ae .eql x0 x0
 bif x1 then gd x2<|gd x1<|gd x3<|bif ae .geq x4 0 then gd x2<|gd x1<|gd x3<|gd (ae .leq 0 x4)<|gd (ae .lss x4 x5)<|gd (aS pd1 x4)<|gd x2<|gd x1<|gd x3<|gd x6<|gd (ae .eql x0 (ac y0))<|gd x7<|gd x8<|ge pd0<|ge pd1<|ge pd2<|ge pd3<|ge pd4<|ge x9<|ge x10<|some (Sum.inl [x11,y0])else gd x6<|gd x12<|gd x7<|gd x8<|ge pd0<|ge pd1<|ge pd2<|ge pd3<|ge pd4<|ge x9<|ge x10<|some (Sum.inl [x11,sd1])else gd x6<|gd x12<|gd x7<|gd x8<|ge pd0<|ge pd1<|ge pd2<|ge pd3<|ge pd4<|ge x9<|ge x10<|some (Sum.inr [.int 0,sd1]):=by kernel_rfl
def Bb:=by have h:= @U2;simp only[aE,gd,aj,ai,ak,au,ar,aD,ap]at h;exact h
def GL:List D->uAC:=veil fun p s=>loW (v8 p) s
theorem DK:GL=fun p s=>loW (v8 p) s:=am _
def Bc:Tb:=Tb.addL Ba 18 29 S18_29.n0 (bL S18_29 (GL))
theorem Le:TbOk env (Bc):=aG Ld 18 29 (by kernel_rfl) _ (DK)
def S18:FunS:=⟨[utD 38,utR 9,utR 9,utS (.int .u32)],[],[utS (.tup [(.rows 46),(.rows 3),(.int .i64)])],[]⟩
def F18:uAC:=aN env Bc 60 12 18 S18
theorem F18_e (sd0:D) (sd1:D) (sd2:D) (sn3:Int):F18 [sd0,sd1,sd2,(D.int sn3)] =
 let y0:=ah (ab (q61 [sd0,sd1,sd2]) 0)
 let y1:=RO [sd2,(.int sn3),sd0] [(.int 0),sd1]
 let y2:=RN [(ab y1 1),sd2,(.int sn3),(.int 0)]
 let y3:=GJ [(.list []),(.list [(.int 0)]),(ab y1 1),sd2,(.int sn3),(.int (ah (ab y2 0))),sd0] [(.int 0),(.list []),(.list [])]
 let y4:=ae .eql (ac (.list [(.int 0)])) (ac (.list [(.int 0)]))
 let y5:=K8 [(ab y1 1),sd2,(.int sn3),(.int (ah (ab y2 0))),(aa sd0 2),(.int (ah (ab y2 0))),(.int (ah (ab y2 0))),(.list []),(.list [(.int 0)]),(ab y3 1),(ab y3 2)]
 let y6:=q67 [(ab y5 0),(ab y5 2),(ab y5 3),(ab y1 1),sd2,(.int sn3),(.int (ah (ab y2 0))),(.int (ah (ab y2 0))),(ab y5 1)]
 let y7:=GK [(ab y5 0),(ab y6 0),(ab y1 1),sd2,(.int sn3),(.int (ah (ab y2 0))),sd0] [(.int (aM .sub .i64 (ac (aa sd0 1)) 1)),(ab y5 2),(ab y5 3)]
 let y8:=q64 [(ab y5 0),(ab y6 0),(ab y1 1),sd2,(.int sn3),(.int (ah (ab y2 0))),(.agg [(.int 0),(.int 0),(.int 2),(.int 0),(.int 0),(.int 0),(.int 0),(.int 0),(.int 0)]),(ab y7 1),(ab y7 2)]
 let y9:=GL [(ab y5 0),(ab y6 0),(ab y8 1),(ab y1 1),sd2,(.int sn3),(.int (ah (ab y2 0)))] [(.int 0),(ab y8 0)]
 let x0:=D.list []
 let x1:=ac sd1
 let x2:=ac x0
 let x3:=ae .eql 0 x2
 let x4:=ac (ab y3 2)
 let x5:=ac (ab y3 1)
 let x6:=ac (ab y5 3)
 let x7:=ae .eql x6 x6
 let x8:=ac (ab y5 2)
 let x9:=ae .eql x8 x8
 let x10:=ac (ab y5 1)
 let x11:=ac (ab y5 0)
 let x12:=ae .eql x11 x11
 let x13:=ac (ab y6 0)
 let x14:=ae .eql x13 x13
 let x15:=ac (ab y7 2)
 let x16:=ac (ab y7 1)
 let x17:=ae .eql (ac (ab y8 1)) (ac (ab y8 1))
 let x18:=ac (ab y8 0)
 gd (ao (q61 [sd0,sd1,sd2]))<|bif ae .neq y0 0 then some [x0,x0,.int y0]else gd (ci x1 16)<|gd (ae .eql x1 x1)<|gd (ao y1)<|gd (ao y2)<|gd x3<|gd x3<|gd (ae .eql 1 (ac (.list [.int 0])))<|gd x3<|gd (ao y3)<|gd (ae .eql x4 x4)<|gd (ae .eql x5 x5)<|gd y4<|gd (ae .eql x2 x2)<|gd (ao y5)<|gd x7<|gd x9<|gd (ae .eql x10 x10)<|gd x12<|gd (ao y6)<|gd x7<|gd x9<|gd x14<|gd x12<|gd (ao y7)<|gd (ae .eql x15 x15)<|gd (ae .eql x16 x16)<|gd x14<|gd x12<|gd (ao y8)<|gd x17<|gd (ae .eql x18 x18)<|gd x14<|gd x12<|gd (ao y9)<|gd x17<|gd (ae .eql (ac (ab y9 1)) (ac (ab y9 1)))<|some [ab y8 1,ab y9 1,.int 0]:=by kernel_rfl
def F18_eq:=by have h:= @F18_e;simp only[aE,gd,aj,ai,ak,au,ar,aD,ap]at h;exact h
def q18:uAC:=veil (F18)
theorem O2:q18=F18:=am _
def tb18:Tb:=Tb.addF Bc 18 S18 (q18)
theorem RP:TbOk env (tb18):=aI Le 18 (by kernel_rfl) _ (O2)
def Lf:FunS:=⟨[utR 187,utI,utI],[],[utI],[]⟩
def O3 (Q:uAC):Tb:=Tb.addF tb18 109 Lf Q
theorem U3 (Q:uAC) (hQ:aH env.P 109 Lf Q):TbOk env (O3 Q):=TbOk.addF RP (by kernel_rfl) hQ
def S109_12:LoopS:=⟨0,ufR 187::ufI::uF::uF::uF::uF::ufZ::utI::ufI::ufP 0 0::utI::uAA 90 [],[(.dat false 187)],[⟨0,2,ufR 187::ufI::uT::uT::uT::uT::utZ::utI::ufI::utP 0 0::uAB 91 [],[(.dat false 187)]⟩]⟩
def qD (Q:uAC) (p s:List D):Option (Sum (List D) (List D)):=aO env (O3 Q) 60 12 109 (bc 109 12) S109_12 p s
theorem O4 (Q:uAC) (pd0:D) (pn1:Int) (pn2:Int) (pd3:D) (sn0:Int) (sn1:Int):qD Q [pd0,(D.int pn1),(D.int pn2),pd3] [(D.int sn0),(D.int sn1)] =
 let y0:=az (ae .lss sn1 (ac (aa pd3 3))) (ae .geq sn0 0) false
 let y1:=q38 [(ax (aa pd3 3) sn1),(.int 70),(.int sn0)]
 bif y0 then gd (aS (aa pd3 3) sn1)<|gd (ao y1)<|ge pd0<|ge (.int pn1)<|ge (.int pn2)<|ge pd3<|some (Sum.inl [.int (ah (ab y1 0)),.int (aM .add .i64 sn1 1)])else ge pd0<|ge (.int pn1)<|ge (.int pn2)<|ge pd3<|some (Sum.inr [.int 0,.int sn0]):=by kernel_rfl
def Lg:=by have h:= @O4;simp only[aE,gd,aj,ai,ak,au,ar,aD,ap]at h;exact h
def GM (Q:uAC):List D->uAC:=veil fun p s=>loW (qD Q p) s
theorem Be (Q:uAC):GM Q=fun p s=>loW (qD Q p) s:=am _
def sO (Q:uAC):Tb:=Tb.addL (O3 Q) 109 12 S109_12.n0 (bL S109_12 (GM Q))
theorem GN (Q:uAC) (hQ:aH env.P 109 Lf Q):TbOk env (sO Q):=aG (U3 Q hQ) 109 12 (by kernel_rfl) _ (Be Q)
def S109_20:LoopS:=⟨0,ufR 187::ufI::uF::uF::uF::uF::ufZ::utI::ufI::ufP 0 0::uF::utI::uAA 89 [],[(.dat false 187)],[⟨0,4,ufR 187::ufI::uT::uT::uT::uT::utZ::utI::ufI::uAB 92 [],[(.dat false 187)]⟩]⟩
def qE (Q:uAC) (p s:List D):Option (Sum (List D) (List D)):=aO env (sO Q) 60 12 109 (bc 109 20) S109_20 p s
theorem O5 (Q:uAC) (pd0:D) (pn1:Int) (pn2:Int) (pd3:D) (sn0:Int) (sn1:Int):qE Q [pd0,(D.int pn1),(D.int pn2),pd3] [(D.int sn0),(D.int sn1)] =
 let y0:=az (ae .lss sn1 (ac (aa pd3 6))) (ae .geq sn0 0) false
 let y1:=ao (Q [(ax (aa pd3 6) sn1),(.int (aM .sub .i64 pn1 1)),(.int sn0)])
 let y2:=ab (Q [(ax (aa pd3 6) sn1),(.int (aM .sub .i64 pn1 1)),(.int sn0)]) 0
 bif y0 then gd (aS (aa pd3 6) sn1)<|gd y1<|ge pd0<|ge (.int pn1)<|ge (.int pn2)<|ge pd3<|some (Sum.inl [.int (ah y2),.int (aM .add .i64 sn1 1)])else ge pd0<|ge (.int pn1)<|ge (.int pn2)<|ge pd3<|some (Sum.inr [.int 0,.int sn0]):=by kernel_rfl
def Lh:=by have h:= @O5;simp only[aE,gd,aj,ai,ak,au,ar,aD,ap]at h;exact h
def GO (Q:uAC):List D->uAC:=veil fun p s=>loW (qE Q p) s
theorem Bf (Q:uAC):GO Q=fun p s=>loW (qE Q p) s:=am _
def sP (Q:uAC):Tb:=Tb.addL (sO Q) 109 20 S109_20.n0 (bL S109_20 (GO Q))
theorem GP (Q:uAC) (hQ:aH env.P 109 Lf Q):TbOk env (sP Q):=aG (GN Q hQ) 109 20 (by kernel_rfl) _ (Bf Q)
def S109_5:LoopS:=⟨0,ufR 187::ufI::uF::uF::uF::uF::ufZ::utI::utI::uAA 92 [],[],[⟨0,0,ufR 187::ufI::uT::uT::uT::uT::utZ::utI::uAB 93 [],[]⟩,⟨1,0,ufR 187::ufI::uT::uT::uT::uT::utS (.lit (.int .i64 (-1)))::uAB 94 [],[]⟩]⟩
def qF (Q:uAC) (p s:List D):Option (Sum (List D) (List D)):=aO env (sP Q) 60 12 109 (bc 109 5) S109_5 p s
theorem U4 (Q:uAC) (pd0:D) (pn1:Int) (sn0:Int) (sn1:Int):qF Q [pd0,(D.int pn1)] [(D.int sn0),(D.int sn1)] =
 let y0:=az (ae .lss sn1 (ac pd0)) (ae .geq sn0 0) false
 let y1:=az (ae .gtr (ac (aa (ax pd0 sn1) 3)) 4) true (ae .gtr (ac (aa (ax pd0 sn1) 6)) 70)
 let y2:=GM Q [pd0,(.int pn1),(.int sn1),(ax pd0 sn1)] [(.int (aM .sub .i64 sn0 1)),(.int 0)]
 let y3:=ao (Q [(aa (ax pd0 sn1) 4),(.int (aM .sub .i64 pn1 1)),(.int (ah (ab y2 1)))])
 let y4:=ab (Q [(aa (ax pd0 sn1) 4),(.int (aM .sub .i64 pn1 1)),(.int (ah (ab y2 1)))]) 0
 let y5:=fG (ae .geq (ah (ab y2 1)) 0) (ah y4) (ah (ab y2 1))
 let y6:=ao (Q [(aa (ax pd0 sn1) 5),(.int (aM .sub .i64 pn1 1)),(.int y5)])
 let y7:=ab (Q [(aa (ax pd0 sn1) 5),(.int (aM .sub .i64 pn1 1)),(.int y5)]) 0
 let y8:=GO Q [pd0,(.int pn1),(.int sn1),(ax pd0 sn1)] [(.int (fG (ae .geq y5 0) (ah y7) y5)),(.int 0)]
 let x0:=D.int pn1
 bif y0 then gd (aS pd0 sn1)<|bif y1 then ge pd0<|ge x0<|some (Sum.inr [.int 1])else gd (ao y2)<|gd (az (ae .geq (ah (ab y2 1)) 0) y3 true)<|gd (az (ae .geq y5 0) y6 true)<|gd (ao y8)<|ge pd0<|ge x0<|some (Sum.inl [.int (ah (ab y8 1)),.int (aM .add .i64 sn1 1)])else ge pd0<|ge x0<|some (Sum.inr [.int 0,.int sn0]):=by kernel_rfl
def oN:=by have h:= @U4;simp only[aE,gd,aj,ai,ak,au,ar,aD,ap]at h;exact h
def O6 (Q:uAC):List D->uAC:=veil fun p s=>loW (qF Q p) s
theorem DL (Q:uAC):O6 Q=fun p s=>loW (qF Q p) s:=am _
def Bg (Q:uAC):Tb:=Tb.addL (sP Q) 109 5 S109_5.n0 (bL S109_5 (O6 Q))
theorem Li (Q:uAC) (hQ:aH env.P 109 Lf Q):TbOk env (Bg Q):=aG (GP Q hQ) 109 5 (by kernel_rfl) _ (DL Q)
def Fb109 (Q:uAC):uAC:=aN env (Bg Q) 60 12 109 Lf
theorem Fb109_e (Q:uAC) (sd0:D) (sn1:Int) (sn2:Int):Fb109 Q [sd0,(D.int sn1),(D.int sn2)] =
 let y0:=az (ae .gtr (ac sd0) 20) true (ae .lss sn1 1)
 let y1:=O6 Q [sd0,(.int sn1)] [(.int sn2),(.int 0)]
 let x0:Option (List D):=some [.int (-1)]
 bif y0 then x0 else gd (ao y1)<|bif ae .eql (ah (ab y1 0)) 0 then some [.int (ah (ab y1 1))]else x0:=by kernel_rfl
def Fb109_eq:=by have h:= @Fb109_e;simp only[aE,gd,aj,ai,ak,au,ar,aD,ap]at h;exact h
def qG:Nat->uAC:=levels Fb109
theorem F109_s (n:Nat):qG (n+1)=Fb109 (qG n):=rfl
def q109:uAC:=veil fun ds=>qG (aW ds) ds
theorem RR:q109=fun ds=>qG (aW ds) ds:=am _
theorem sound109:aH env.P 109 Lf q109:=gj (fun q=>Bg q) (fun q hq=>Li q hq) RR
def tb109:Tb:=Tb.addF tb18 109 Lf q109
theorem Lj:TbOk env tb109:=TbOk.addF RP (by kernel_rfl) sound109
def O7:FunS:=⟨[utD 63,utI,utI],[],[utI],[]⟩
def O8 (Q:uAC):Tb:=Tb.addF tb109 167 O7 Q
theorem U5 (Q:uAC) (hQ:aH env.P 167 O7 Q):TbOk env (O8 Q):=TbOk.addF Lj (by kernel_rfl) hQ
def S167_5:LoopS:=⟨0,uF::ufI::uF::ufP 0 0::uF::uF::ufZ::utI::utI::uAA 63 [],[(.dat false 63)],[⟨0,0,uT::ufI::uT::utP 0 0::uT::uT::utZ::utI::uAB 64 [],[(.dat false 63)]⟩]⟩
def wa (Q:uAC) (p s:List D):Option (Sum (List D) (List D)):=aO env (O8 Q) 60 12 167 (bc 167 5) S167_5 p s
theorem U6 (Q:uAC) (pn0:Int) (pd1:D) (sn0:Int) (sn1:Int):wa Q [(D.int pn0),pd1] [(D.int sn0),(D.int sn1)] =
 let y0:=az (ae .lss sn1 (ac (aa pd1 3))) (ae .geq sn0 0) false
 let y1:=ao (Q [(ax (aa pd1 3) sn1),(.int (aM .sub .i64 pn0 1)),(.int sn0)])
 let y2:=ab (Q [(ax (aa pd1 3) sn1),(.int (aM .sub .i64 pn0 1)),(.int sn0)]) 0
 bif y0 then gd (aS (aa pd1 3) sn1)<|gd y1<|ge (.int pn0)<|ge pd1<|some (Sum.inl [.int (ah y2),.int (aM .add .i64 sn1 1)])else ge (.int pn0)<|ge pd1<|some (Sum.inr [.int 0,.int sn0]):=by kernel_rfl
def O9:=by have h:= @U6;simp only[aE,gd,aj,ai,ak,au,ar,aD,ap]at h;exact h
def Pa (Q:uAC):List D->uAC:=veil fun p s=>loW (wa Q p) s
theorem DM (Q:uAC):Pa Q=fun p s=>loW (wa Q p) s:=am _
def Bh (Q:uAC):Tb:=Tb.addL (O8 Q) 167 5 S167_5.n0 (bL S167_5 (Pa Q))
theorem Lk (Q:uAC) (hQ:aH env.P 167 O7 Q):TbOk env (Bh Q):=aG (U5 Q hQ) 167 5 (by kernel_rfl) _ (DM Q)
def S167_9:LoopS:=⟨0,uF::ufI::uF::ufP 0 0::uF::uF::ufZ::utI::uF::utI::uAA 62 [],[(.dat false 63)],[⟨0,2,uT::ufI::uT::uT::uT::uT::utZ::utI::uAB 64 [],[(.dat false 63)]⟩]⟩
def wb (Q:uAC) (p s:List D):Option (Sum (List D) (List D)):=aO env (Bh Q) 60 12 167 (bc 167 9) S167_9 p s
theorem U7 (Q:uAC) (pn0:Int) (pd1:D) (sn0:Int) (sn1:Int):wb Q [(D.int pn0),pd1] [(D.int sn0),(D.int sn1)] =
 let y0:=az (ae .lss sn1 (ac (aa pd1 4))) (ae .geq sn0 0) false
 let y1:=ao (Q [(.agg [(.int (ah (aa (aa (ax (aa pd1 4) sn1) 1) 0))),(.int (ah (aa (aa (ax (aa pd1 4) sn1) 1) 1))),(.int (ah (aa (aa (ax (aa pd1 4) sn1) 1) 2))),(aa (aa (ax (aa pd1 4) sn1) 1) 3),(aa (aa (ax (aa pd1 4) sn1) 1) 4)]),(.int (aM .sub .i64 pn0 1)),(.int sn0)])
 let y2:=ab (Q [(.agg [(.int (ah (aa (aa (ax (aa pd1 4) sn1) 1) 0))),(.int (ah (aa (aa (ax (aa pd1 4) sn1) 1) 1))),(.int (ah (aa (aa (ax (aa pd1 4) sn1) 1) 2))),(aa (aa (ax (aa pd1 4) sn1) 1) 3),(aa (aa (ax (aa pd1 4) sn1) 1) 4)]),(.int (aM .sub .i64 pn0 1)),(.int sn0)]) 0
 bif y0 then gd (aS (aa pd1 4) sn1)<|gd y1<|ge (.int pn0)<|ge pd1<|some (Sum.inl [.int (ah y2),.int (aM .add .i64 sn1 1)])else ge (.int pn0)<|ge pd1<|some (Sum.inr [.int 0,.int sn0]):=by kernel_rfl
def Pb:=by have h:= @U7;simp only[aE,gd,aj,ai,ak,au,ar,aD,ap]at h;exact h
def Pc (Q:uAC):List D->uAC:=veil fun p s=>loW (wb Q p) s
theorem DN (Q:uAC):Pc Q=fun p s=>loW (wb Q p) s:=am _
def Bi (Q:uAC):Tb:=Tb.addL (Bh Q) 167 9 S167_9.n0 (bL S167_9 (Pc Q))
theorem Ll (Q:uAC) (hQ:aH env.P 167 O7 Q):TbOk env (Bi Q):=aG (Lk Q hQ) 167 9 (by kernel_rfl) _ (DN Q)
def Fb167 (Q:uAC):uAC:=aN env (Bi Q) 60 12 167 O7
theorem Fb167_e (Q:uAC) (sd0:D) (sn1:Int) (sn2:Int):Fb167 Q [sd0,(D.int sn1),(D.int sn2)] =
 let y0:=az (ae .lss sn1 1) true (ae .lss sn2 1)
 let y1:=az (az y0 true (ae .gtr (ac (aa sd0 3)) 12)) true (ae .gtr (ac (aa sd0 4)) 70)
 let y2:=Pa Q [(.int sn1),sd0] [(.int (aM .sub .i64 sn2 1)),(.int 0)]
 let y3:=Pc Q [(.int sn1),sd0] [(.int (ah (ab y2 1))),(.int 0)]
 bif y1 then some [.int (-1)]else gd (ao y2)<|gd (ao y3)<|some [.int (ah (ab y3 1))]:=by kernel_rfl
def Fb167_eq:=by have h:= @Fb167_e;simp only[aE,gd,aj,ai,ak,au,ar,aD,ap]at h;exact h
def GQ:Nat->uAC:=levels Fb167
theorem F167_s (n:Nat):GQ (n+1)=Fb167 (GQ n):=rfl
def q167:uAC:=veil fun ds=>GQ (aW ds) ds
theorem RT:q167=fun ds=>GQ (aW ds) ds:=am _
theorem sound167:aH env.P 167 O7 q167:=gj (fun q=>Bi q) (fun q hq=>Ll q hq) RT
def tb167:Tb:=Tb.addF tb109 167 O7 q167
theorem ok_tb167:TbOk env tb167:=TbOk.addF Lj (by kernel_rfl) sound167
def S110:FunS:=⟨[utD 63,utI],[],[utB],[]⟩
def F110:uAC:=aN env tb167 60 12 110 S110
theorem F110_e (sd0:D) (sn1:Int):F110 [sd0,(D.int sn1)] =
 let y0:=q167 [sd0,(.int sn1),(.int 3000)]
 gd (ao y0)<|some [.bool (ae .geq (ah (ab y0 0)) 0)]:=by kernel_rfl
def F110_eq:=by have h:= @F110_e;simp only[aE,gd,aj,ai,ak,au,ar,aD,ap]at h;exact h
def q110:uAC:=veil (F110)
theorem RU:q110=F110:=am _
def tb110:Tb:=Tb.addF tb167 110 S110 (q110)
theorem ok_tb110:TbOk env (tb110):=aI ok_tb167 110 (by kernel_rfl) _ (RU)
def S46_4:LoopS:=⟨0,uF::ufP 0 0::ufS (.lit (.bool false))::utI::uAA 25 [],[(.dat false 38)],[⟨0,0,uT::uT::utS (.lit (.bool false))::uAB 26 [],[(.dat false 38)]⟩,⟨1,0,uT::uT::utS (.lit (.bool false))::uAB 26 [],[(.dat false 38)]⟩]⟩
def Bj (p s:List D):Option (Sum (List D) (List D)):=aO env tb110 60 12 46 (bc 46 4) S46_4 p s
theorem st46_4_e (pd0:D) (sn0:Int):Bj [pd0] [(D.int sn0)] =
 let y0:=q110 [(.agg [(.int (ah (aa (aa (ax (aa pd0 1) sn0) 1) 0))),(.int (ah (aa (aa (ax (aa pd0 1) sn0) 1) 1))),(.int (ah (aa (aa (ax (aa pd0 1) sn0) 1) 2))),(aa (aa (ax (aa pd0 1) sn0) 1) 3),(aa (aa (ax (aa pd0 1) sn0) 1) 4)]),(.int 70)]
 bif ae .lss sn0 (ac (aa pd0 1))then gd (aS (aa pd0 1) sn0)<|gd (ao y0)<|bif b8 (aT (ab y0 0))then ge pd0<|some (Sum.inr [.int 1])else ge pd0<|some (Sum.inl [.int (aM .add .i64 sn0 1)])else ge pd0<|some (Sum.inr [.int 0]):=by kernel_rfl
def DO:=by have h:= @st46_4_e;simp only[aE,gd,aj,ai,ak,au,ar,aD,ap]at h;exact h
def RV:List D->uAC:=veil fun p s=>loW (Bj p) s
theorem Lm:RV=fun p s=>loW (Bj p) s:=am _
def GR:Tb:=Tb.addL tb110 46 4 S46_4.n0 (bL S46_4 (RV))
theorem Pd:TbOk env (GR):=aG ok_tb110 46 4 (by kernel_rfl) _ (Lm)
def S46:FunS:=⟨[utD 38],[],[utB],[]⟩
def F46:uAC:=aN env GR 60 12 46 S46
theorem F46_e (sd0:D):F46 [sd0] =
 let y0:=q109 [(aa sd0 2),(.int 70),(.int 5000)]
 let y1:=az (ae .gtr (ac (aa sd0 1)) 300) true (ao y0)
 let y2:=az (ae .gtr (ac (aa sd0 1)) 300) true (ae .lss (ah (ab y0 0)) 0)
 let y3:=ao (RV [sd0] [(.int 0)])
 let y4:=ab (RV [sd0] [(.int 0)]) 0
 let x0:Option (List D):=some [.bool false]
 gd y1<|bif y2 then x0 else gd y3<|bif ae .eql (ah y4) 0 then some [.bool true]else x0:=by kernel_rfl
def F46_eq:=by have h:= @F46_e;simp only[aE,gd,aj,ai,ak,au,ar,aD,ap]at h;exact h
def q46:uAC:=veil (F46)
theorem q46_eq:q46=F46:=am _
def tb46:Tb:=Tb.addF GR 46 S46 (q46)
theorem ok_tb46:TbOk env (tb46):=aI Pd 46 (by kernel_rfl) _ (q46_eq)
def S16:FunS:=⟨[utD 38,utR 9,utR 9],[],[utB],[]⟩
def F16:uAC:=aN env tb46 60 12 16 S16
theorem F16_e (sd0:D) (sd1:D) (sd2:D):F16 [sd0,sd1,sd2] =
 let y0:=az (aT (ab (q46 [sd0]) 0)) (ae .leq (ac sd1) 40) false
 gd (ao (q46 [sd0]))<|some [.bool (az y0 (ae .leq (ac sd2) 70) false)]:=by kernel_rfl
def F16_eq:=by have h:= @F16_e;simp only[aE,gd,aj,ai,ak,au,ar,aD,ap]at h;exact h
def q16:uAC:=veil (F16)
theorem q16_eq:q16=F16:=am _
def tb16:Tb:=Tb.addF tb46 16 S16 (q16)
theorem ok_tb16:TbOk env (tb16):=aI ok_tb46 16 (by kernel_rfl) _ (q16_eq)
def S15_4:LoopS:=⟨0,ufR 46::ufR 46::uF::uF::ufS (.lit (.bool false))::utI::uAA 20 [],[],[⟨0,0,ufR 46::ufR 46::uT::uT::utS (.lit (.bool false))::uAB 21 [],[]⟩,⟨1,0,ufR 46::ufR 46::uT::uT::utS (.lit (.bool false))::uAB 21 [],[]⟩]⟩
def GS (p s:List D):Option (Sum (List D) (List D)):=aO env tb16 60 12 15 (bc 15 4) S15_4 p s
theorem st15_4_e (pd0:D) (pd1:D) (sn0:Int):GS [pd0,pd1] [(D.int sn0)] =
 let y0:=ae .eql (ah (aa (ax pd0 sn0) 0)) (ah (aa (ax pd1 sn0) 0))
 let y1:=ae .eql (ah (aa (ax pd0 sn0) 1)) (ah (aa (ax pd1 sn0) 1))
 let y2:=ae .eql (ah (aa (ax pd0 sn0) 2)) (ah (aa (ax pd1 sn0) 2))
 let y3:=ae .eql (ah (aa (ax pd0 sn0) 3)) (ah (aa (ax pd1 sn0) 3))
 let y4:=ae .eql (ah (aa (ax pd0 sn0) 4)) (ah (aa (ax pd1 sn0) 4))
 let y5:=ae .eql (ah (aa (ax pd0 sn0) 5)) (ah (aa (ax pd1 sn0) 5))
 let y6:=ae .eql (ah (aa (ax pd0 sn0) 6)) (ah (aa (ax pd1 sn0) 6))
 let y7:=ae .eql (ah (aa (ax pd0 sn0) 7)) (ah (aa (ax pd1 sn0) 7))
 let y8:=ae .eql (ah (aa (ax pd0 sn0) 8)) (ah (aa (ax pd1 sn0) 8))
 let y9:=cz y2 (cz y3 (cz y4 (cz y5 (cz y6 (cz y7 y8)))))
 bif ae .lss sn0 (ac pd0)then gd (aS pd0 sn0)<|gd (aS pd1 sn0)<|bif b8 (cz y0 (cz y1 y9))then ge pd0<|ge pd1<|some (Sum.inr [.int 1])else ge pd0<|ge pd1<|some (Sum.inl [.int (aM .add .i64 sn0 1)])else ge pd0<|ge pd1<|some (Sum.inr [.int 0]):=by kernel_rfl
def DP:=by have h:= @st15_4_e;simp only[aE,gd,aj,ai,ak,au,ar,aD,ap]at h;exact h
def RX:List D->uAC:=veil fun p s=>loW (GS p) s
theorem Ln:RX=fun p s=>loW (GS p) s:=am _
def GT:Tb:=Tb.addL tb16 15 4 S15_4.n0 (bL S15_4 (RX))
theorem Pe:TbOk env (GT):=aG ok_tb16 15 4 (by kernel_rfl) _ (Ln)
def S15:FunS:=⟨[utR 46,utR 46],[],[utB],[]⟩
def F15:uAC:=aN env GT 60 12 15 S15
theorem F15_e (sd0:D) (sd1:D):F15 [sd0,sd1] =
 let y0:=ao (RX [sd0,sd1] [(.int 0)])
 let y1:=ab (RX [sd0,sd1] [(.int 0)]) 0
 let x0:Option (List D):=some [.bool false]
 bif ae .neq (ac sd0) (ac sd1)then x0 else gd y0<|bif ae .eql (ah y1) 0 then some [.bool true]else x0:=by kernel_rfl
def F15_eq:=by have h:= @F15_e;simp only[aE,gd,aj,ai,ak,au,ar,aD,ap]at h;exact h
def q15:uAC:=veil (F15)
theorem q15_eq:q15=F15:=am _
def tb15:Tb:=Tb.addF GT 15 S15 (q15)
theorem ok_tb15:TbOk env (tb15):=aI Pe 15 (by kernel_rfl) _ (q15_eq)
def S19_4:LoopS:=⟨0,ufR 3::ufR 3::uF::uF::ufS (.lit (.bool false))::utI::uAA 20 [],[],[⟨0,0,ufR 3::ufR 3::uT::uT::utS (.lit (.bool false))::uAB 21 [],[]⟩,⟨1,0,ufR 3::ufR 3::uT::uT::utS (.lit (.bool false))::uAB 21 [],[]⟩]⟩
def GU (p s:List D):Option (Sum (List D) (List D)):=aO env tb15 60 12 19 (bc 19 4) S19_4 p s
theorem st19_4_e (pd0:D) (pd1:D) (sn0:Int):GU [pd0,pd1] [(D.int sn0)] =
 bif ae .lss sn0 (ac pd0)then gd (aS pd0 sn0)<|gd (aS pd1 sn0)<|bif ae .neq (ah (ax pd0 sn0)) (ah (ax pd1 sn0))then ge pd0<|ge pd1<|some (Sum.inr [.int 1])else ge pd0<|ge pd1<|some (Sum.inl [.int (aM .add .i64 sn0 1)])else ge pd0<|ge pd1<|some (Sum.inr [.int 0]):=by kernel_rfl
def DQ:=by have h:= @st19_4_e;simp only[aE,gd,aj,ai,ak,au,ar,aD,ap]at h;exact h
def RY:List D->uAC:=veil fun p s=>loW (GU p) s
theorem Lo:RY=fun p s=>loW (GU p) s:=am _
def GV:Tb:=Tb.addL tb15 19 4 S19_4.n0 (bL S19_4 (RY))
theorem Pf:TbOk env (GV):=aG ok_tb15 19 4 (by kernel_rfl) _ (Lo)
def S19:FunS:=⟨[utR 3,utR 3],[],[utB],[]⟩
def F19:uAC:=aN env GV 60 12 19 S19
theorem F19_e (sd0:D) (sd1:D):F19 [sd0,sd1] =
 let y0:=ao (RY [sd0,sd1] [(.int 0)])
 let y1:=ab (RY [sd0,sd1] [(.int 0)]) 0
 let x0:Option (List D):=some [.bool false]
 bif ae .neq (ac sd0) (ac sd1)then x0 else gd y0<|bif ae .eql (ah y1) 0 then some [.bool true]else x0:=by kernel_rfl
def F19_eq:=by have h:= @F19_e;simp only[aE,gd,aj,ai,ak,au,ar,aD,ap]at h;exact h
def q19:uAC:=veil (F19)
theorem q19_eq:q19=F19:=am _
def tb19:Tb:=Tb.addF GV 19 S19 (q19)
theorem ok_tb19:TbOk env (tb19):=aI Pf 19 (by kernel_rfl) _ (q19_eq)
end
end Go.Proofs.YtiojjmlccehpoaaGreat
open Go Go.AM
namespace Go.Proofs.YtiojjmlccehpoaaGreat
noncomputable def tb12:Tb:=Tb.addF tb19 12 S12 q12
theorem ok_tb12:TbOk env tb12:=TbOk.addF ok_tb19 (by kernel_rfl) sound12
def S4:FunS:=⟨[utD 38,utR 9,utR 9,utS (.int .u32)],[],[utB],[]⟩
noncomputable def F4:uAC:=aN env tb12 60 12 4 S4
theorem F4_e (sd0:D) (sd1:D) (sd2:D) (sn3:Int):F4 [sd0,sd1,sd2,(D.int sn3)] =
 let y0:=aT (ab (q16 [sd0,sd1,sd2]) 0)
 let y1:=q17 [sd0,sd1,sd2,(.int sn3)]
 let y2:=q18 [sd0,sd1,sd2,(.int sn3)]
 let y3:=q15 [(ab y1 0),(ab y2 0)]
 let y4:=q19 [(ab y1 1),(ab y2 1)]
 let y5:=az (az (aT (ab y3 0)) (aT (ab y4 0)) false) (ae .eql (ah (ab y1 2)) (ah (ab y2 2))) false
 let y6:=az y5 (ao (q12 [])) true
 let y7:=az y5 (aT (ab (q12 []) 0)) false
 let x0:=q12 []
 gd (ao (q16 [sd0,sd1,sd2]))<|bif b8 y0 then gd (ao x0)<|some [.bool (aT (ab x0 0))]else gd (ao y1)<|gd (ao y2)<|gd (ao y3)<|gd (az (aT (ab y3 0)) (ao y4) true)<|gd y6<|some [.bool y7]:=by kernel_rfl
def F4_eq:=by have h:= @F4_e;simp only[aE,gd,aj,ai,ak,au,ar,aD,ap]at h;exact h
noncomputable def q4:uAC:=veil (F4)
theorem q4_eq:q4=F4:=am _
end Go.Proofs.YtiojjmlccehpoaaGreat
