/-
  Single operations: slices of slices, lengths, append, copy.
-/
import Derived.Test.YteccopaonadbeaaGreatDoorAm7
set_option linter.unusedVariables false
set_option linter.unusedSimpArgs false
namespace Go.AM
section
variable {P:Program} {lo:Nat→Prop} {w0:World} {ρ:Nat→Option Nat} {E:Nat→Prop} {H:Hp} {w:World}
theorem natOf_rep {x:AV} {u:Value} {n:Nat} (h:natOf x=some n) (r:Rep ρ E w x u):∃k,u = .int k (n:Int):=by
 unfold natOf at h
 split at h
 ·split at h
  ·rename_i k m hm
   cases h
   simp only[Rep]at r
   exact⟨k,by rw[r];congr 1;omega⟩
  ·cases h
 ·cases h
theorem run_bound {k:IntKind} {n y:Nat} (h:n≤y) (code:BoundsCode) (w:World):(Instr.sliceBound (.int k (n:Int)) y code).run P w = .ok n w:=by
 have h1:(0:Int)≤(n:Int)∧(n:Int)≤(y:Int):=by omega
 simp only[Instr.sliceBound,asIntOf,pure_bind,h1,and_self,if_true,Int.toNat_natCast]
 rfl
def RepO (ρ:Nat→Option Nat) (E:Nat→Prop) (w:World):Option AV→Option Value→Prop
 |none,v=>v=none
 |some x,v=>∃u,v=some u∧Rep ρ E w x u
theorem run_bounds {lo' hi':Option AV} {lv hv:Option Value} {l h len cap:Nat} (isS:Bool) (hl:lowOf lo'=some l) (hh:highOf len hi'=some h) (rl:RepO ρ E w lo' lv) (rh:RepO ρ E w hi' hv) (h1:l≤h) (h2:h≤len) (h3:len≤cap):
 (Instr.sliceBounds isS len cap lv hv none).run P w = .ok (l,h,cap) w:=by
 have hlow:∀c:BoundsCode,(match lv with|some v=>Instr.sliceBound v h c|none=>pure 0:Sem Nat).run P w = .ok l w:=by
  intro c
  cases lo' with
  |none=>simp only[RepO]at rl;subst rl;simp only[lowOf,Option.some.injEq]at hl;subst hl;simp
  |some x=>
   simp only[RepO]at rl
   obtain⟨u,rfl,ru⟩:=rl
   simp only[lowOf]at hl
   obtain⟨k,rfl⟩:=natOf_rep hl ru
   exact run_bound h1 c w
 have hhigh:∀c:BoundsCode,(match hv with|some v=>Instr.sliceBound v cap c|none=>pure len:Sem Nat).run P w = .ok h w:=by
  intro c
  cases hi' with
  |none=>simp only[RepO]at rh;subst rh;simp only[highOf,Option.some.injEq]at hh;subst hh;simp
  |some x=>
   simp only[RepO]at rh
   obtain⟨u,rfl,ru⟩:=rh
   simp only[highOf]at hh
   obtain⟨k,rfl⟩:=natOf_rep hh ru
   exact run_bound (by omega) c w
 cases hv with
 |none=>
  have hh':=hhigh .sliceB
  simp only[Sem.run_pure,Result.ok.injEq,and_true]at hh'
  subst hh'
  cases lv with
  |none=>have:=hlow .sliceB;simp at this;subst this;simp[Instr.sliceBounds]
  |some v=>have:=hlow .sliceB;simp only at this;simp[Instr.sliceBounds,this]
 |some v=>
  have hh':=hhigh
  simp only at hh'
  cases lv with
  |none=>have:=hlow .sliceB;simp at this;subst this;simp[Instr.sliceBounds,hh']
  |some v'=>have:=hlow .sliceB;simp only at this;simp[Instr.sliceBounds,hh',this]
theorem ok_sliceE {T:TypeId} {xs:List (List AV)} {v:AV} {u:Value} {lo' hi':Option AV} {lv hv:Option Value} {l h:Nat}
 (hl:lowOf lo'=some l) (hh:highOf xs.length hi'=some h) (rl:RepO ρ E w lo' lv) (rh:RepO ρ E w hi' hv)
 (hs:sliceE P T xs l h=some v) (r:Rep ρ E w (.esl xs) u):OkP P ρ E w (Instr.sliceAt T u lv hv none) v:=by
 unfold sliceE at hs
 split at hs
 case isFalse=>cases hs
 case isTrue hb=>
  obtain⟨h1,h2⟩:=hb
  split at hs
  case h_2=>cases hs
  case h_1 e hu=>
   cases hz:sz P e with
   |none=>simp[hz]at hs
   |some s=>
    simp only[hz,Option.bind_some]at hs
    simp only[Rep]at r
    obtain⟨a,cap,rfl,hcap,hr⟩:=r
    have hrun:(Instr.sliceAt T (.slice a xs.length cap) lv hv none).run P w = .ok (.slice (if cap=l then a else a.map (·.add (l*s))) (h-l) (cap-l)) w:=by
     simp[Instr.sliceAt,run_underlying hu,Instr.slice,run_bounds (P:=P) true hl hh rl rh h1 h2 hcap,run_sz hz]
    refine⟨_,hrun,?_⟩
    split at hs
    ·rename_i hl0
     subst hl0
     cases hs
     simp only[Rep]
     have ea:(if cap=0 then a else a.map (·.add (0*s)))=a:=by
      split
      ·rfl
      ·cases a<;>simp[Addr.add]
     rw[ea]
     refine⟨a,cap-0,?_,?_,?_⟩
     ·simp only[List.length_take];congr 1;omega
     ·simp only[List.length_take];omega
     ·rcases hr with rfl|⟨b,off,z,rfl,he,hr⟩
      ·left;simp
      ·right;exact⟨b,off,z,rfl,he,hr.take h⟩
    ·split at hs
     ·rename_i hlh
      cases hx:xs[l]? with
      |none=>simp[hx]at hs
      |some c=>
       simp only[hx,Option.bind_some]at hs
       split at hs
       ·rename_i hcl
        cases hs
        rcases hr with rfl|⟨b,off,z,rfl,he,hr⟩
        ·simp at hx
        ·have hcz:z=s:=by rw[← hcl];exact(hr.get hx).1.symm
         subst hcz
         have hne:¬cap=l:=by omega
         simp only[Rep]
         rw[if_neg hne]
         refine⟨some ⟨b,off+l*z,none⟩,cap-l,?_,?_, .inr ⟨b,off+l*z,z,?_,he,?_⟩⟩
         ·simp only[Option.map_some,Addr.add_none,List.length_drop,List.length_take];congr 1;omega
         ·simp only[List.length_drop,List.length_take];omega
         ·rfl
         ·have:=(hr.take h).drop l (by simp only[List.length_take];omega)
          exact this
       ·cases hs
     ·cases hs
      simp only[Rep]
      exact⟨_,cap-l,by congr 1;simp;omega,by simp, .inl trivial⟩
theorem ok_sliceO {T:TypeId} {i z off len:Nat} {v:AV} {u:Value} {lo' hi':Option AV} {lv hv:Option Value} {l h:Nat}
 (hl:lowOf lo'=some l) (hh:highOf len hi'=some h) (rl:RepO ρ E w lo' lv) (rh:RepO ρ E w hi' hv)
 (hs:sliceO P T i z off len l h=some v) (r:Rep ρ E w (.sl i z off len) u):OkP P ρ E w (Instr.sliceAt T u lv hv none) v:=by
 unfold sliceO at hs
 split at hs
 case isFalse=>cases hs
 case isTrue hb=>
  obtain⟨h1,h2⟩:=hb
  split at hs
  case h_2=>cases hs
  case h_1 e hu=>
   cases hz:sz P e with
   |none=>simp[hz]at hs
   |some s=>
    simp only[hz,Option.bind_some]at hs
    split at hs
    case isFalse=>cases hs
    case isTrue hsz=>
     subst hsz
     simp only[Rep]at r
     obtain⟨b,cap,hρ,rfl,hcap,c,T',f,hc,hfit⟩:=r
     have hrun:(Instr.sliceAt T (.slice (some ⟨b,off,none⟩) len cap) lv hv none).run P w = .ok (.slice (if cap=l then some ⟨b,off,none⟩else some (⟨b,off+l*s,none⟩)) (h-l) (cap-l)) w:=by
      simp[Instr.sliceAt,run_underlying hu,Instr.slice,run_bounds (P:=P) true hl hh rl rh h1 h2 hcap,run_sz hz,Addr.add_none]
     refine⟨_,hrun,?_⟩
     split at hs
     ·rename_i hl0
      subst hl0
      cases hs
      simp only[Rep]
      refine⟨b,cap,hρ,?_,by omega,c,T',f,hc,hfit⟩
      simp
     ·split at hs
      ·rename_i hlh
       cases hs
       have hne:¬cap=l:=by omega
       simp only[Rep]
       rw[if_neg hne]
       refine⟨b,cap-l,hρ,rfl,by omega,c,T',f,hc,?_⟩
       have:l*s+(cap-l)*s=cap*s:=by rw[← Nat.add_mul];congr 1;omega
       omega
      ·cases hs
       simp only[Rep]
       exact⟨_,cap-l,by congr 1;simp;omega,by simp, .inl trivial⟩
theorem ok_sliceP (inv:Inv lo w0 ρ E H w) {T:TypeId} {i off:Nat} {v:AV} {u:Value} {lo' hi':Option AV} {lv hv:Option Value} {l:Nat}
 (hl:lowOf lo'=some l) (rl:RepO ρ E w lo' lv) (rh:RepO ρ E w hi' hv)
 (hs:sliceP P H T i off l hi'=some v) (r:Rep ρ E w (.ptr i off) u):OkP P ρ E w (Instr.sliceAt T u lv hv none) v:=by
 unfold sliceP at hs
 split at hs
 case h_2=>cases hs
 case h_1 n e hu=>
  cases hz:sz P e with
  |none=>simp[hz]at hs
  |some s=>
   cases hh:highOf n hi' with
   |none=>simp[hz,hh]at hs
   |some h=>
    cases hg:getB H i with
    |none=>simp[hz,hh,hg]at hs
    |some cs=>
     simp only[hz,hh,hg,Option.bind_some]at hs
     split at hs
     case isFalse=>cases hs
     case isTrue hb=>
      obtain⟨h1,h2,hfit⟩:=hb
      simp only[Rep]at r
      obtain⟨b,hρ,rfl⟩:=r
      obtain⟨c,T',hc,hlc,_⟩:=inv.cells hg hρ
      have hrun:(Instr.sliceAt T (.pointer (some ⟨b,off,none⟩)) lv hv none).run P w = .ok (.slice (some (if n=l then⟨b,off,none⟩else(⟨b,off+l*s,none⟩))) (h-l) (n-l)) w:=by
       simp[Instr.sliceAt,run_underlying hu,Instr.sureAddr,run_bounds (P:=P) false hl hh rl rh h1 h2 (Nat.le_refl n),run_sz hz,Addr.add_none]
      refine⟨_,hrun,?_⟩
      split at hs
      ·rename_i hl0
       subst hl0
       cases hs
       simp only[Rep]
       exact⟨b,n,hρ,by simp,by omega,c,T',_,hc,by omega⟩
      ·split at hs
       ·rename_i hlh
        cases hs
        have hne:¬n=l:=by omega
        simp only[Rep]
        rw[if_neg hne]
        refine⟨b,n-l,hρ,rfl,by omega,c,T',_,hc,?_⟩
        have:l*s+(n-l)*s=n*s:=by rw[← Nat.add_mul];congr 1;omega
        omega
       ·cases hs
        simp only[Rep]
        exact⟨_,n-l,by congr 1;simp;omega,by simp, .inl trivial⟩
theorem valOpt_rep {x:Option AV} {v a:Option Value} (h:valOpt x=some a) (r:RepO ρ E w x v):v=a:=by
 unfold valOpt at h
 split at h
 ·cases h;simpa[RepO]using r
 ·cases h;simp only[RepO,Rep]at r;obtain⟨u,rfl,rfl⟩:=r;rfl
 ·cases h
theorem numOf_rep {x:AV} {u:Value} {n:Int} (h:numOf x=some n) (r:Rep ρ E w x u):∃k,u = .int k n:=by
 unfold numOf at h
 split at h
 ·cases h;simp only[Rep]at r;exact⟨_,r⟩
 ·cases h;simp only[Rep]at r;exact⟨_,r⟩
 ·cases h
theorem run_boundsD {lo' hi':Option AV} {lv hv:Option Value} {l h:Nat} {d:D} {cap:Nat} (isS:Bool) (hl:lowD lo'=some (l:Int)) (hh:highD d hi'=some (h:Int)) (rl:RepO ρ E w lo' lv) (rh:RepO ρ E w hi' hv) (h1:l≤h) (h2:h≤d.toList.length) (h3:d.toList.length≤cap):
 (Instr.sliceBounds isS d.toList.length cap lv hv none).run P w = .ok (l,h,cap) w:=by
 have hlow:∀c:BoundsCode,(match lv with|some v=>Instr.sliceBound v h c|none=>pure 0:Sem Nat).run P w = .ok l w:=by
  intro c
  cases lo' with
  |none=>simp only[RepO]at rl;subst rl;simp only[lowD,Option.some.injEq]at hl;have:l=0:=by omega
         subst this;simp
  |some x=>
   simp only[RepO]at rl
   obtain⟨u,rfl,ru⟩:=rl
   simp only[lowD]at hl
   obtain⟨k,rfl⟩:=numOf_rep hl ru
   exact run_bound h1 c w
 have hhigh:∀c:BoundsCode,(match hv with|some v=>Instr.sliceBound v cap c|none=>pure d.toList.length:Sem Nat).run P w = .ok h w:=by
  intro c
  cases hi' with
  |none=>
   simp only[RepO]at rh;subst rh
   simp only[highD,qlen_eq,D.len,Option.some.injEq]at hh
   have:h=d.toList.length:=by omega
   subst this;simp
  |some x=>
   simp only[RepO]at rh
   obtain⟨u,rfl,ru⟩:=rh
   simp only[highD]at hh
   obtain⟨k,rfl⟩:=numOf_rep hh ru
   exact run_bound (by omega) c w
 cases hv with
 |none=>
  have hh':=hhigh .sliceB
  simp only[Sem.run_pure,Result.ok.injEq,and_true]at hh'
  subst hh'
  cases lv with
  |none=>have:=hlow .sliceB;simp at this;subst this;simp[Instr.sliceBounds]
  |some v=>have:=hlow .sliceB;simp only at this;simp[Instr.sliceBounds,this]
 |some v=>
  have hh':=hhigh
  simp only at hh'
  cases lv with
  |none=>have:=hlow .sliceB;simp at this;subst this;simp[Instr.sliceBounds,hh']
  |some v'=>have:=hlow .sliceB;simp only at this;simp[Instr.sliceBounds,hh',this]
theorem ok_sliceD {T T':TypeId} {d:D} {v:AV} {u:Value} {lo' hi':Option AV} {lv hv:Option Value} (ho:allB (sliceObl (.rows T' d) lo' hi')=true) (rl:RepO ρ E w lo' lv) (rh:RepO ρ E w hi' hv)
 (hs:sliceD P T T' d lo' hi'=some v) (r:Rep ρ E w (.rows T' d) u):OkP P ρ E w (Instr.sliceAt T u lv hv none) v:=by
 unfold sliceD at hs
 split at hs
 ·rename_i e hu
  cases hb:((sz P e).isSome&&Nat.beq (P.cellsOf e) (PG.cellsOf T')&&layOk PG rowDepth T')with
  |false=>simp[hb]at hs
  |true=>
   simp only[hb,cond_true]at hs
   simp only[Bool.and_eq_true]at hb
   have hz:=Nat.eq_of_beq_eq_true hb.1.2
   cases hl:lowD lo' with
   |none=>simp[hl]at hs
   |some l=>
    cases hh:highD d hi' with
    |none=>simp[hl,hh]at hs
    |some h=>
     simp only[hl,hh,Option.bind_some,Option.map_some,Option.some.injEq]at hs
     subst hs
     have o1:=allB_mem ho (qcmp .leq 0 l) (by simp[sliceObl,hl,hh])
     have o2:=allB_mem ho (qcmp .leq l h) (by simp[sliceObl,hl,hh])
     have o3:=allB_mem ho (qcmp .leq h (qlen d)) (by simp[sliceObl,hl,hh])
     rw[qcmp_eq]at o1 o2 o3
     rw[qlen_eq]at o3
     simp only[rcmp,D.len,decide_eq_true_eq]at o1 o2 o3
     obtain⟨l,rfl⟩:=Int.eq_ofNat_of_zero_le o1
     obtain⟨h,rfl⟩:=Int.eq_ofNat_of_zero_le (Int.le_trans o1 o2)
     have h1:l≤h:=by omega
     have h2:h≤d.toList.length:=by have:=of_decide_eq_true o3;omega
     have hzz:∃s,sz P e=some s∧s=P.cellsOf e:=by
      cases hi:P.info? e with
      |none=>have:=hb.1.1;simp[sz,hi]at this
      |some i=>exact⟨i.size,by simp[sz,hi],by simp[Program.cellsOf,hi]⟩
     obtain⟨s,hs,hse⟩:=hzz
     simp only[Rep]at r
     obtain⟨a,cap,rfl,hcap,hr⟩:=r
     have hrun:(Instr.sliceAt T (.slice a d.toList.length cap) lv hv none).run P w = .ok (.slice (if cap=l then a else a.map (·.add (l*s))) (h-l) (cap-l)) w:=by
      simp[Instr.sliceAt,run_underlying hu,Instr.slice,run_boundsD (P:=P) true hl hh rl rh h1 h2 hcap,run_sz hs]
     refine⟨_,hrun,?_⟩
     rw[qsub_eq]
     simp only[Rep]
     have hlist:(D.sub d (l:Int) (h:Int)).toList=(d.toList.drop l).take (h-l):=by
      simp only[D.sub,D.toList,Int.toNat_natCast]
      congr 1;omega
     have hlen:(D.sub d (l:Int) (h:Int)).toList.length=h-l:=by rw[hlist];simp;omega
     refine⟨if cap=l then a else a.map (·.add (l*s)),cap-l,?_,?_,?_⟩
     ·rw[hlen]
     ·rw[hlen];omega
     ·by_cases hlh:l<h
      ·right
       rcases hr with hr|⟨b,off,rfl,he,hr⟩
       ·have h0:d.toList.length=0:=by rw[hr];rfl
        omega
       ·have hne:¬cap=l:=by omega
        rw[if_neg hne]
        refine⟨b,off+l*s,by simp[Addr.add_none],he,fun i x hx=> ?_⟩
        rw[hlist,List.getElem?_take]at hx
        split at hx
        ·rw[List.getElem?_drop]at hx
         obtain⟨row,r1,r2,r3⟩:=hr (l+i) x hx
         refine⟨row,r1,fun j u hu=> ?_,r3⟩
         rw[hse,hz,show off+l*PG.cellsOf T'+i*PG.cellsOf T'+j=off+(l+i)*PG.cellsOf T'+j from by rw[Nat.add_mul];omega]
         exact r2 j u hu
        ·cases hx
      ·left
       rw[← List.length_eq_zero_iff,hlen];omega
 ·cases hs
theorem ok_sliceS {T:TypeId} {s:ByteArray} {v:AV} {u:Value} {lo' hi':Option AV} {lv hv:Option Value} (ho:allB (match lowD lo',highS s hi' with
 |some l,some h=>[qcmp .leq 0 l,qcmp .leq l h,qcmp .leq h (qlenS s)]
 |_,_=>[])=true) (rl:RepO ρ E w lo' lv) (rh:RepO ρ E w hi' hv)
 (hs:sliceS P T s lo' hi'=some v) (r:Rep ρ E w (.us s) u):OkP P ρ E w (Instr.sliceAt T u lv hv none) v:=by
 unfold sliceS at hs
 split at hs
 ·rename_i hu
  cases hl:lowD lo' with
  |none=>simp[hl]at hs
  |some l=>
   cases hh:highS s hi' with
   |none=>simp[hl,hh]at hs
   |some h=>
    simp only[hl,hh,Option.bind_some,Option.map_some,Option.some.injEq]at hs
    subst hs
    have o1:=allB_mem ho (qcmp .leq 0 l) (by simp[hl,hh])
    have o2:=allB_mem ho (qcmp .leq l h) (by simp[hl,hh])
    have o3:=allB_mem ho (qcmp .leq h (qlenS s)) (by simp[hl,hh])
    rw[qcmp_eq]at o1 o2 o3
    rw[qlenS_eq]at o3
    simp only[rcmp,decide_eq_true_eq]at o1 o2 o3
    obtain⟨l,rfl⟩:=Int.eq_ofNat_of_zero_le o1
    obtain⟨h,rfl⟩:=Int.eq_ofNat_of_zero_le (Int.le_trans o1 o2)
    have h1:l≤h:=by omega
    have h2:h≤s.size:=by omega
    simp only[Rep]at r
    subst r
    have hd:(D.list (List.replicate s.size .other)).toList.length=s.size:=by simp[D.toList]
    have hh':highD (.list (List.replicate s.size .other)) hi'=some (h:Int):=by
     cases hi' with
     |none=>simp only[highS,qlenS_eq,Option.some.injEq]at hh;simp only[highD,qlen_eq,D.len,hd];rw[← hh]
     |some x=>exact hh
    have hb:=run_boundsD (P:=P) (w:=w) (cap:=s.size) false hl hh' rl rh h1 (by rw[hd];exact h2) (by rw[hd];exact Nat.le_refl _)
    rw[hd]at hb
    refine⟨.string (s.extract l h),?_,by simp only[Rep,qsubS_eq,Int.toNat_natCast]⟩
    simp[Instr.sliceAt,run_underlying hu,Instr.slice,hb]
 ·cases hs
theorem lowOf_zero {lo':Option AV} {lv:Option Value} (hl:lowOf lo'=some 0) (rl:RepO ρ E w lo' lv):lv=none∨∃k,lv=some (.int k 0):=by
 cases lo' with
 |none=>simp only[RepO]at rl;exact .inl rl
 |some x=>
  simp only[RepO]at rl
  obtain⟨u,rfl,ru⟩:=rl
  obtain⟨k,rfl⟩:=natOf_rep hl ru
  exact .inr ⟨k,rfl⟩
theorem run_slice0 {T e:TypeId} {s len cap h m:Nat} {a:Option Addr} {lv hv mv:Option Value} (hu:P.underlying T=some (.slice e)) (hz:sz P e=some s) (hl:lv=none∨∃k,lv=some (.int k 0))
 (hh:(hv=none∧h=len∧mv=none)∨∃k,hv=some (.int k (h:Int))) (hm:(mv=none∧m=cap)∨∃k,mv=some (.int k (m:Int))) (h1:h≤m) (h2:m≤cap) (w:World):
 (Instr.sliceAt T (.slice a len cap) lv hv mv).run P w = .ok (.slice a h m) w:=by
 have ha:(if m=0 then a else a.map (·.add (0*s)))=a:=by
  split
  ·rfl
  ·cases a<;>simp[Addr.add]
 have b0:∀(k:IntKind) (y:Nat) (c:BoundsCode),(Instr.sliceBound (.int k 0) y c).run P w = .ok 0 w:=fun k y c=>run_bound (P:=P) (n:=0) (Nat.zero_le _) c w
 have bh:∀(k:IntKind) (c:BoundsCode),(Instr.sliceBound (.int k (h:Int)) m c).run P w = .ok h w:=fun k c=>run_bound h1 c w
 have bm:∀(k:IntKind) (c:BoundsCode),(Instr.sliceBound (.int k (m:Int)) cap c).run P w = .ok m w:=fun k c=>run_bound h2 c w
 have hb:(Instr.sliceBounds true len cap lv hv mv).run P w = .ok (0,h,m) w:=by
  rcases hm with⟨rfl,rfl⟩|⟨km,rfl⟩
  ·rcases hh with⟨rfl,rfl,_⟩|⟨kh,rfl⟩
   ·rcases hl with rfl|⟨kl,rfl⟩
    ·simp[Instr.sliceBounds]
    ·simp[Instr.sliceBounds,b0]
   ·rcases hl with rfl|⟨kl,rfl⟩
    ·simp[Instr.sliceBounds,bh]
    ·simp[Instr.sliceBounds,bh,b0]
  ·rcases hh with⟨_,_,e⟩|⟨kh,rfl⟩
   ·cases e
   ·rcases hl with rfl|⟨kl,rfl⟩
    ·simp[Instr.sliceBounds,bm,bh]
    ·simp[Instr.sliceBounds,bm,bh,b0]
 simp only[Instr.sliceAt,Instr.slice,Sem.run_bind,run_underlying hu,Result.andThen_ok,hb,run_sz hz,Sem.run_pure,Nat.sub_zero]
 rw[ha]
theorem isSome_sz {e:TypeId} (h:(sz P e).isSome=true):∃s,sz P e=some s:=Option.isSome_iff_exists.1 h
theorem sliceAt_osl {T':TypeId} {i:Nat} {mm:Int} {cap:Nat} {a:Option Addr} {h m:Nat} (h0:0≤mm) (hcap:mm.toNat≤cap)
 (hr:(mm=0∧cap=0)∨∃b,ρ i=some b∧a=some ⟨b,0,none⟩∧∃c T'' f,w.heap[b]? = some (.cells c T'' f)∧cap*PG.cellsOf T'≤c.size) (h1:h≤m) (h2:m≤cap):
 Rep ρ E w (.osl i T' (h:Int)) (.slice a h m):=by
 simp only[Rep]
 refine⟨by omega,a,m,by simp,by simpa using h1,?_⟩
 rcases hr with⟨rfl,rfl⟩|⟨b,hb,ha,c,T'',f,hc,hs⟩
 ·exact .inl ⟨by omega,by omega⟩
 ·exact .inr ⟨b,hb,ha,c,T'',f,hc,Nat.le_trans (Nat.mul_le_mul_right _ h2) hs⟩
theorem ok_sliceOsl {T T':TypeId} {i:Nat} {m:Int} {v:AV} {u:Value} {lo' hi':Option AV} {lv hv:Option Value} (ho:allB (sliceObl (.osl i T' m) lo' hi')=true) (rl:RepO ρ E w lo' lv) (rh:RepO ρ E w hi' hv)
 (hs:sliceOsl P T T' i (.osl i T' m) lo' hi'=some v) (r:Rep ρ E w (.osl i T' m) u):OkP P ρ E w (Instr.sliceAt T u lv hv none) v:=by
 unfold sliceOsl at hs
 split at hs
 case h_2=>cases hs
 case h_1 e hu=>
  cases hb:((sz P e).isSome&&Nat.beq (P.cellsOf e) (PG.cellsOf T'))with
  |false=>simp[hb]at hs
  |true=>
   simp only[hb,cond_true]at hs
   simp only[Bool.and_eq_true]at hb
   obtain⟨s,hz⟩:=isSome_sz hb.1
   obtain⟨l,hl,hs⟩:=Option.bind_eq_some_iff.1 hs
   obtain⟨h,hh,hs⟩:=Option.bind_eq_some_iff.1 hs
   cases hl0:Nat.beq l 0 with
   |false=>simp[hl0]at hs
   |true=>
    obtain rfl:=Nat.eq_of_beq_eq_true hl0
    simp only[hl0,cond_true,Option.some.injEq]at hs
    subst hs
    simp only[Rep]at r
    obtain⟨h0,a,cap,rfl,hcap,hr⟩:=r
    have hlv:=lowOf_zero hl rl
    cases hi' with
    |none=>
     simp only[RepO]at rh
     subst rh
     simp only[Option.some.injEq]at hh
     subst hh
     obtain⟨n,rfl⟩:=Int.eq_ofNat_of_zero_le h0
     simp only[Int.toNat_natCast]at hcap ⊢
     exact⟨_,run_slice0 hu hz hlv (.inl ⟨rfl,rfl,rfl⟩) (.inl ⟨rfl,rfl⟩) hcap (Nat.le_refl _) w,sliceAt_osl h0 (by simpa using hcap) hr hcap (Nat.le_refl _)⟩
    |some y=>
     simp only[RepO]at rh
     obtain⟨yv,rfl,ry⟩:=rh
     simp only at hh
     obtain⟨k,rfl⟩:=numOf_rep hh ry
     have o1:=allB_mem ho (qcmp .leq 0 h) (by simp[sliceObl,hh])
     have o2:=allB_mem ho (qcmp .leq h m) (by simp[sliceObl,hh])
     rw[qcmp_eq]at o1 o2
     simp only[rcmp,decide_eq_true_eq]at o1 o2
     obtain⟨n,rfl⟩:=Int.eq_ofNat_of_zero_le o1
     exact⟨_,run_slice0 hu hz hlv (.inr ⟨k,rfl⟩) (.inl ⟨rfl,rfl⟩) (by omega) (Nat.le_refl _) w,sliceAt_osl h0 hcap hr (by omega) (Nat.le_refl _)⟩
theorem isSlice_rep {x:AV} {u:Value} (h:isSlice x=true) (r:Rep ρ E w x u):∃a l c,u = .slice a l c:=by
 unfold isSlice at h
 split at h
 ·simp only[Rep]at r;exact⟨_,_,_,r⟩
 ·simp only[Rep]at r;obtain⟨_,_,_,rfl,_⟩:=r;exact⟨_,_,_,rfl⟩
 ·simp only[Rep]at r;obtain⟨_,_,rfl,_⟩:=r;exact⟨_,_,_,rfl⟩
 ·simp only[Rep]at r;obtain⟨_,_,rfl,_⟩:=r;exact⟨_,_,_,rfl⟩
 ·simp only[Rep]at r;obtain⟨_,_,_,_,rfl⟩:=r;exact⟨_,_,_,rfl⟩
 ·simp only[Rep]at r;obtain⟨_,_,_,rfl,_⟩:=r;exact⟨_,_,_,rfl⟩
 ·simp only[Rep]at r;obtain⟨_,rfl⟩:=r;exact⟨_,_,_,rfl⟩
 ·cases h
theorem isZ_rep {x:AV} {u:Value} (h:isZ x=true) (r:Rep ρ E w x u):∃k,u = .int k 0:=by
 unfold isZ at h
 split at h
 ·simp only[Rep]at r;exact⟨_,r⟩
 ·cases h
theorem ok_sliceM {T:TypeId} {x v m:AV} {u:Value} {lo' hi':Option AV} {lv hv mv:Option Value} (ho:allB (sliceMObl x hi' m)=true) (rl:RepO ρ E w lo' lv) (rh:RepO ρ E w hi' hv) (rm:RepO ρ E w (some m) mv)
 (hs:sliceM P T x lo' hi' m=some v) (r:Rep ρ E w x u):OkP P ρ E w (Instr.sliceAt T u lv hv mv) v:=by
 unfold sliceM at hs
 split at hs
 case h_2=>cases hs
 case h_1 e hu=>
  cases hb:(sz P e).isSome with
  |false=>simp[hb]at hs
  |true=>
   simp only[hb,cond_true]at hs
   obtain⟨s,hz⟩:=isSome_sz hb
   obtain⟨l,hl,hs⟩:=Option.bind_eq_some_iff.1 hs
   cases hl0:Nat.beq l 0 with
   |false=>simp[hl0]at hs
   |true=>
    obtain rfl:=Nat.eq_of_beq_eq_true hl0
    simp only[hl0,cond_true]at hs
    have hlv:=lowOf_zero hl rl
    simp only[RepO]at rm
    obtain⟨mu,rfl,rm⟩:=rm
    obtain⟨h,rfl,hs3⟩:=Option.bind_eq_some_iff.1 hs
    clear hs
    simp only[RepO]at rh
    obtain⟨hu',rfl,rh⟩:=rh
    cases hzz:(isZ h&&(isZ m&&isSlice x))with
    |true=>
     simp only[hzz,cond_true,Option.some.injEq]at hs3
     subst hs3
     simp only[Bool.and_eq_true]at hzz
     obtain⟨k,rfl⟩:=isZ_rep hzz.1 rh
     obtain⟨k',rfl⟩:=isZ_rep hzz.2.1 rm
     obtain⟨a,l,c,rfl⟩:=isSlice_rep hzz.2.2 r
     exact⟨_,run_slice0 (h:=0) (m:=0) hu hz hlv (.inr ⟨k,rfl⟩) (.inr ⟨k',rfl⟩) (Nat.le_refl _) (Nat.zero_le _) w,by simp only[Rep];exact⟨a,rfl⟩⟩
    |false=>
     simp only[hzz,cond_false]at hs3
     cases x with
     |osl i T' mm=>
      simp only[sliceMObl,hzz,cond_false]at ho
      simp only[Rep]at r
      obtain⟨h0,a,cap,rfl,hcap,hr⟩:=r
      obtain⟨hn,hhn,hs4⟩:=Option.bind_eq_some_iff.1 hs3
      obtain⟨mn,hmn,hs5⟩:=Option.bind_eq_some_iff.1 hs4
      rw[hhn,hmn]at ho
      cases hc:Nat.beq (P.cellsOf e) (PG.cellsOf T')with
      |false=>simp[hc]at hs5
      |true=>
       simp only[hc,cond_true,Option.some.injEq]at hs5
       subst hs5
       obtain⟨k,rfl⟩:=numOf_rep hhn rh
       obtain⟨k',rfl⟩:=numOf_rep hmn rm
       have o1:=allB_mem ho (qcmp .eql hn mm) (by simp)
       have o2:=allB_mem ho (qcmp .eql mn mm) (by simp)
       rw[qcmp_eq]at o1 o2
       simp only[rcmp,beq_iff_eq]at o1 o2
       subst o1 o2
       obtain⟨n,rfl⟩:=Int.eq_ofNat_of_zero_le h0
       simp only[Int.toNat_natCast]at hcap ⊢
       exact⟨_,run_slice0 hu hz hlv (.inr ⟨k,rfl⟩) (.inr ⟨k',rfl⟩) (Nat.le_refl _) hcap w,sliceAt_osl h0 (by simpa using hcap) hr (Nat.le_refl _) hcap⟩
     |sl i z off len=>
      obtain⟨hn,hhn,hs4⟩:=Option.bind_eq_some_iff.1 hs3
      obtain⟨mn,hmn,hs5⟩:=Option.bind_eq_some_iff.1 hs4
      split at hs5
      ·rename_i hle
       cases hs5
       obtain⟨k,rfl⟩:=natOf_rep hhn rh
       obtain⟨k',rfl⟩:=natOf_rep hmn rm
       simp only[Rep]at r
       obtain⟨b,cap,hb,rfl,hcap,c,T',f,hc,hsz⟩:=r
       refine⟨_,run_slice0 hu hz hlv (.inr ⟨k,rfl⟩) (.inr ⟨k',rfl⟩) hle.1 (by omega) w,?_⟩
       simp only[Rep]
       have:mn*z≤cap*z:=Nat.mul_le_mul_right z (by omega)
       exact⟨b,mn,hb,rfl,hle.1,c,T',f,hc,by omega⟩
      ·cases hs5
     |_=>cases hs3
noncomputable def slObl (x:AV) (lo hi mx:Option AV):List Bool:=match mx with|none=>sliceObl x lo hi|some m=>sliceMObl x hi m
theorem ok_slice (inv:Inv lo w0 ρ E H w) {T:TypeId} {x v:AV} {u:Value} {lo' hi' mx:Option AV} {lv hv mv:Option Value}
 (rl:RepO ρ E w lo' lv) (rh:RepO ρ E w hi' hv) (rm:RepO ρ E w mx mv) (ho:allB (slObl x lo' hi' mx)=true) (hs:sliceA P H T x lo' hi' mx=some v) (r:Rep ρ E w x u):OkP P ρ E w (Instr.sliceAt T u lv hv mv) v:=by
 cases mx with
 |some m=>exact ok_sliceM ho rl rh rm hs r
 |none=>
  simp only[RepO]at rm
  subst rm
  replace hs:sliceA P H T x lo' hi' none=some v:=hs
  replace ho:allB (sliceObl x lo' hi')=true:=ho
  simp only[sliceA]at hs
  split at hs
  ·exact ok_sliceOsl ho rl rh hs r
  ·exact ok_sliceD ho rl rh hs r
  ·rename_i xs
   cases hl:lowOf lo' with
   |none=>simp[hl]at hs
   |some l=>
    cases hh:highOf xs.length hi' with
    |none=>simp[hl,hh]at hs
    |some h=>simp only[hl,hh,Option.bind_some]at hs;exact ok_sliceE hl hh rl rh hs r
  ·rename_i i z off len
   cases hl:lowOf lo' with
   |none=>simp[hl]at hs
   |some l=>
    cases hh:highOf len hi' with
    |none=>simp[hl,hh]at hs
    |some h=>simp only[hl,hh,Option.bind_some]at hs;exact ok_sliceO hl hh rl rh hs r
  ·cases hl:lowOf lo' with
   |none=>simp[hl]at hs
   |some l=>simp only[hl,Option.bind_some]at hs;exact ok_sliceP inv hl rl rh hs r
  ·exact ok_sliceS ho rl rh hs r
  ·rename_i v0
   split at hs
   ·rename_i a b ha hb
    rw[valOpt_rep ha rl,valOpt_rep hb rh]
    simp only[Rep]at r
    subst r
    exact ok_pure_sc hs
   ·rename_i hab
    cases v0<;>simp only[sliceKS]at hs<;>try (cases hs;done)
    rename_i s
    simp only[Rep]at r
    subst r
    refine ok_sliceS (s:=s) ?_ rl rh hs (by simp only[Rep])
    simp only[sliceObl]at ho
    exact ho
  ·cases hs
theorem RepM.length:∀{xs:List (Value×AV)} {es:List MapEntry},RepM ρ E w xs es→xs.length=es.length
 | [],es,h=>by simp only[RepM]at h;simp[h]
 | (k,v)::xs,es,h=>by
   simp only[RepM]at h
   obtain⟨e,es',rfl,_,_,h2⟩:=h
   simp[RepM.length h2]
theorem Inv.mapAt (inv:Inv lo w0 ρ E H w) {i b:Nat} {es:List (Value×AV)} (h:getM H i=some es) (hb:ρ i=some b):
 ∃arr clk,w.heap[b]? = some (.map arr clk)∧RepM ρ E w es arr.toList∧Born arr clk:=inv.blk i (.map es) b (getM_get h) hb
theorem run_getObj_map {b:Nat} {arr:Array MapEntry} {clk:Nat} {w:World} (hm:w.heap[b]? = some (.map arr clk)):(getObj b).run P w = .ok (.map arr clk) w:=by
 simp[getObj,Sem.run,hm]
theorem ok_lenP {T ty:TypeId} {x v:AV} {u:Value} (h:lenP P T x=some v) (r:Rep ρ E w x u):OkP P ρ E w (Builtin.len_ #[T] ty #[u]) v:=by
 unfold lenP at h
 split at h
 case h_1 hu=>cases h;simp only[Rep]at r;obtain⟨_,_,_,rfl,_⟩:=r;exact ok_val (by simp[Builtin.len_,run_underlying hu,goInt])
 case h_2 hu=>cases h;simp only[Rep]at r;obtain⟨_,_,rfl,_⟩:=r;exact ok_val (by simp[Builtin.len_,run_underlying hu,goInt])
 case h_3 hu=>cases h;simp only[Rep]at r;subst r;exact ok_val (by simp[Builtin.len_,run_underlying hu,goInt])
 case h_4 hu=>cases h;simp only[Rep]at r;obtain⟨_,rfl⟩:=r;exact ok_val (by simp[Builtin.len_,run_underlying hu,goInt])
 case h_5 hu=>cases h;simp only[Rep]at r;subst r;exact ok_val (by simp[Builtin.len_,run_underlying hu,goInt])
 case h_6 hu=>cases h;simp only[Rep]at r;obtain⟨_,_,rfl,_⟩:=r;exact⟨.int .i64 _,by simp[Builtin.len_,run_underlying hu,goInt];rfl,by simp only[Rep,qlen_eq,D.len]⟩
 case h_7 hu=>cases h;simp only[Rep]at r;obtain⟨⟨_,_,rfl,_⟩,_⟩:=r;exact⟨.int .i64 _,by simp[Builtin.len_,run_underlying hu,goInt];rfl,by simp only[Rep,qlen_eq,D.len]⟩
 case h_8 m hu=>
  cases h
  simp only[Rep]at r
  obtain⟨h0,_,_,rfl,_⟩:=r
  exact⟨.int .i64 m,by simp[Builtin.len_,run_underlying hu,goInt];omega,by simp only[Rep]⟩
 case h_9 hu=>cases h;simp only[Rep]at r;subst r;exact⟨.int .i64 _,by simp[Builtin.len_,run_underlying hu,goInt];rfl,by simp only[Rep,qlenS_eq]⟩
 case h_10 es hu=>
  cases h
  simp only[Rep]at r
  obtain⟨b,arr,clk,rfl,_,hm,hr,_⟩:=r
  have hl:arr.size=es.length:=by rw[← Array.length_toList,hr.length]
  exact ok_val (by simp[Builtin.len_,run_underlying hu,goInt,run_getObj_map hm,hl])
 case h_11 hu=>cases h;exact ok_val (by simp[Builtin.len_,run_underlying hu,goInt])
 case h_12=>cases h
theorem ok_cap {T ty:TypeId} {x v:AV} {u:Value} (h:capA P T x=some v) (r:Rep ρ E w x u):OkP P ρ E w (Builtin.cap_ #[T] ty #[u]) v:=by
 unfold capA at h
 split at h
 ·rename_i e hu
  cases h
  simp only[Rep]at r
  subst r
  exact⟨.int .i64 0,by simp[Builtin.cap_,run_underlying hu,goInt],by simp only[Rep]⟩
 ·rename_i e hu
  cases h
  simp only[Rep]at r
  obtain⟨a,rfl⟩:=r
  exact⟨.int .i64 0,by simp[Builtin.cap_,run_underlying hu,goInt],by simp only[Rep]⟩
 ·cases h
theorem ok_len (inv:Inv lo w0 ρ E H w) {T ty:TypeId} {x v:AV} {u:Value} (h:lenA P T H x=some v) (r:Rep ρ E w x u):OkP P ρ E w (Builtin.len_ #[T] ty #[u]) v:=by
 unfold lenA at h
 split at h
 ·rename_i i
  split at h
  ·rename_i es hg
   unfold lenM at h
   split at h
   ·rename_i hu
    cases h
    simp only[Rep]at r
    obtain⟨b,hb,rfl⟩:=r
    obtain⟨arr,clk,hm,hr,_⟩:=inv.blk i _ b hg hb
    have hl:arr.size=es.length:=by rw[← Array.length_toList,hr.length]
    exact ok_val (by simp[Builtin.len_,run_underlying hu,goInt,run_getObj_map hm,hl])
   ·cases h
  ·rename_i kT vT d hg
   unfold lenU at h
   split at h
   ·rename_i hu
    cases h
    simp only[Rep]at r
    obtain⟨b,hb,rfl⟩:=r
    obtain⟨arr,clk,hm,hr,_⟩:=inv.blk i _ b hg hb
    have hl:arr.size=d.toList.length:=by rw[← Array.length_toList, ← hr.length];simp[entsD]
    exact⟨.int .i64 arr.size,by simp[Builtin.len_,run_underlying hu,goInt,run_getObj_map hm],by simp only[Rep];rw[qlen_eq,hl];rfl⟩
   ·cases h
  ·cases h
 ·exact ok_lenP h r
end
end Go.AM
