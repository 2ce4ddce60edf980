/-
  Single operations: slices of slices, lengths, append, copy.
-/
import Derived.Test.YtiojjmlccehpoaaGreatAm7
set_option linter.unusedSimpArgs false
set_option linter.unusedVariables false
namespace Go.AM
section
variable {P:Program} {lo:Nat->Prop} {w0:World} {ρ:Nat->Option Nat} {E:Nat->Prop} {H:Hp} {w:World}
theorem g9 {x:AV} {u:Value} {n:Nat} (h:vy x=some n) (r:Rep ρ E w x u):∃k,u = .int k (n:Int):=by
 unfold vy at h;split at h
 ·split at h
  ·rename_i k m hm;cases h;simp only[Rep]at r;exact⟨k,by rw[r];congr 1;omega⟩
  ·cases h
 ·cases h
theorem fY {k:IntKind} {n y:Nat} (h:n≤y) (code:BoundsCode) (w:World):(Instr.sliceBound (.int k (n:Int)) y code).run P w = .ok n w:=by
 have h1:(0:Int)≤(n:Int)∧(n:Int)≤(y:Int):=by omega
 simp only[Instr.sliceBound,asIntOf,pure_bind,h1,and_self,aX,fP]
 rfl
def RepO (ρ:Nat->Option Nat) (E:Nat->Prop) (w:World):Option AV->Option Value->Prop
 |none,v=>v=none
 |some x,v=>∃u,v=some u∧Rep ρ E w x u
theorem nW {lo' hi':Option AV} {lv hv:Option Value} {l h len cap:Nat} (isS:Bool) (hl:gQ lo'=some l) (hh:gD len hi'=some h) (rl:RepO ρ E w lo' lv) (rh:RepO ρ E w hi' hv) (h1:l≤h) (h2:h≤len) (h3:len≤cap):
 (Instr.sliceBounds isS len cap lv hv none).run P w = .ok (l,h,cap) w:=by
 have hlow:∀c:BoundsCode,(match lv with|some v=>Instr.sliceBound v h c|none=>pure 0:Sem Nat).run P w = .ok l w:=by
  intro c;cases lo' with
  |none=>simp only[RepO]at rl;subst rl;simp only[gQ,aN]at hl;subst hl;simp
  |some x=>
   simp only[RepO]at rl;obtain⟨u,rfl,ru⟩:=rl;simp only[gQ]at hl;obtain⟨k,rfl⟩:=g9 hl ru;exact fY h1 c w
 have hhigh:∀c:BoundsCode,(match hv with|some v=>Instr.sliceBound v cap c|none=>pure len:Sem Nat).run P w = .ok h w:=by
  intro c;cases hi' with
  |none=>simp only[RepO]at rh;subst rh;simp only[gD,aN]at hh;subst hh;simp
  |some x=>
   simp only[RepO]at rh;obtain⟨u,rfl,ru⟩:=rh;simp only[gD]at hh;obtain⟨k,rfl⟩:=g9 hh ru;exact fY (by omega) c w
 cases hv with
 |none=>
  have hh':=hhigh .sliceB;simp only[fT,Result.ok.injEq,and_true]at hh';subst hh';cases lv with
  |none=>have:=hlow .sliceB;simp at this;subst this;simp[Instr.sliceBounds]
  |some v=>have:=hlow .sliceB;simp only at this;simp[Instr.sliceBounds,this]
 |some v=>
  have hh':=hhigh;simp only at hh';cases lv with
  |none=>have:=hlow .sliceB;simp at this;subst this;simp[Instr.sliceBounds,hh']
  |some v'=>have:=hlow .sliceB;simp only at this;simp[Instr.sliceBounds,hh',this]
theorem Qo {T:TypeId} {xs:List (List AV)} {v:AV} {u:Value} {lo' hi':Option AV} {lv hv:Option Value} {l h:Nat}
 (hl:gQ lo'=some l) (hh:gD xs.length hi'=some h) (rl:RepO ρ E w lo' lv) (rh:RepO ρ E w hi' hv)
 (hs:Kb P T xs l h=some v) (r:Rep ρ E w (.esl xs) u):OkP P ρ E w (Instr.sliceAt T u lv hv none) v:=by
 unfold Kb at hs;split at hs
 case isFalse=>cases hs
 case isTrue hb=>
  obtain⟨h1,h2⟩:=hb;split at hs
  case h_2=>cases hs
  case h_1 e hu=>
   cases hz:sz P e with
   |none=>simp[hz]at hs
   |some s=>
    simp only[hz,bc]at hs;simp only[Rep]at r;obtain⟨a,cap,rfl,hcap,hr⟩:=r;have hrun:(Instr.sliceAt T (.slice a xs.length cap) lv hv none).run P w = .ok (.slice (if cap=l then a else a.map (·.add (l*s))) (h-l) (cap-l)) w:=by
     simp[Instr.sliceAt,bp hu,Instr.slice,nW (P:=P) true hl hh rl rh h1 h2 hcap,cL hz]
    refine⟨_,hrun,?_⟩
    split at hs
    ·rename_i hl0;subst hl0;cases hs;simp only[Rep];have ea:(if cap=0 then a else a.map (·.add (0*s)))=a:=by
      split
      ·rfl
      ·cases a<;>simp[Addr.add]
     rw[ea];refine⟨a,cap-0,?_,?_,?_⟩
     ·simp only[fj];congr 1;omega
     ·simp only[fj];omega
     ·rcases hr with rfl|⟨b,off,z,rfl,he,hr⟩
      ·left;simp
      ·right;exact⟨b,off,z,rfl,he,hr.take h⟩
    ·split at hs
     ·rename_i hlh;cases hx:xs[l]? with
      |none=>simp[hx]at hs
      |some c=>
       simp only[hx,bc]at hs;split at hs
       ·rename_i hcl;cases hs;rcases hr with rfl|⟨b,off,z,rfl,he,hr⟩
        ·simp at hx
        ·have hcz:z=s:=by rw[<- hcl];exact(hr.get hx).1.symm
         subst hcz;have hne:¬cap=l:=by omega
         simp only[Rep];rw[if_neg hne];refine⟨some ⟨b,off+l*z,none⟩,cap-l,?_,?_, .inr ⟨b,off+l*z,z,?_,he,?_⟩⟩
         ·simp only[cH,Addr.add_none,ib,fj];congr 1;omega
         ·simp only[ib,fj];omega
         ·rfl
         ·have:=(hr.take h).drop l (by simp only[fj];omega)
          exact this
       ·cases hs
     ·cases hs;simp only[Rep];exact⟨_,cap-l,by congr 1;simp;omega,by simp, .inl trivial⟩
theorem Qp {T:TypeId} {i z off len:Nat} {v:AV} {u:Value} {lo' hi':Option AV} {lv hv:Option Value} {l h:Nat}
 (hl:gQ lo'=some l) (hh:gD len hi'=some h) (rl:RepO ρ E w lo' lv) (rh:RepO ρ E w hi' hv)
 (hs:Kc P T i z off len l h=some v) (r:Rep ρ E w (.sl i z off len) u):OkP P ρ E w (Instr.sliceAt T u lv hv none) v:=by
 unfold Kc at hs;split at hs
 case isFalse=>cases hs
 case isTrue hb=>
  obtain⟨h1,h2⟩:=hb;split at hs
  case h_2=>cases hs
  case h_1 e hu=>
   cases hz:sz P e with
   |none=>simp[hz]at hs
   |some s=>
    simp only[hz,bc]at hs;split at hs
    case isFalse=>cases hs
    case isTrue hsz=>
     subst hsz;simp only[Rep]at r;obtain⟨b,cap,hρ,rfl,hcap,c,T',f,hc,hfit⟩:=r;have hrun:(Instr.sliceAt T (.slice (some ⟨b,off,none⟩) len cap) lv hv none).run P w = .ok (.slice (if cap=l then some ⟨b,off,none⟩else some (⟨b,off+l*s,none⟩)) (h-l) (cap-l)) w:=by
      simp[Instr.sliceAt,bp hu,Instr.slice,nW (P:=P) true hl hh rl rh h1 h2 hcap,cL hz,Addr.add_none]
     refine⟨_,hrun,?_⟩
     split at hs
     ·rename_i hl0;subst hl0;cases hs;simp only[Rep];refine⟨b,cap,hρ,?_,by omega,c,T',f,hc,hfit⟩
      simp
     ·split at hs
      ·rename_i hlh;cases hs;have hne:¬cap=l:=by omega
       simp only[Rep];rw[if_neg hne];refine⟨b,cap-l,hρ,rfl,by omega,c,T',f,hc,?_⟩
       have:l*s+(cap-l)*s=cap*s:=by rw[<- Nat.add_mul];congr 1;omega
       omega
      ·cases hs;simp only[Rep];exact⟨_,cap-l,by congr 1;simp;omega,by simp, .inl trivial⟩
theorem Qq (inv:Inv lo w0 ρ E H w) {T:TypeId} {i off:Nat} {v:AV} {u:Value} {lo' hi':Option AV} {lv hv:Option Value} {l:Nat}
 (hl:gQ lo'=some l) (rl:RepO ρ E w lo' lv) (rh:RepO ρ E w hi' hv)
 (hs:C7 P H T i off l hi'=some v) (r:Rep ρ E w (.ptr i off) u):OkP P ρ E w (Instr.sliceAt T u lv hv none) v:=by
 unfold C7 at hs;split at hs
 case h_2=>cases hs
 case h_1 n e hu=>
  cases hz:sz P e with
  |none=>simp[hz]at hs
  |some s=>
   cases hh:gD n hi' with
   |none=>simp[hz,hh]at hs
   |some h=>
    cases hg:getB H i with
    |none=>simp[hz,hh,hg]at hs
    |some cs=>
     simp only[hz,hh,hg,bc]at hs;split at hs
     case isFalse=>cases hs
     case isTrue hb=>
      obtain⟨h1,h2,hfit⟩:=hb;simp only[Rep]at r;obtain⟨b,hρ,rfl⟩:=r;obtain⟨c,T',hc,hlc,_⟩:=inv.cells hg hρ;have hrun:(Instr.sliceAt T (.pointer (some ⟨b,off,none⟩)) lv hv none).run P w = .ok (.slice (some (if n=l then⟨b,off,none⟩else(⟨b,off+l*s,none⟩))) (h-l) (n-l)) w:=by
       simp[Instr.sliceAt,bp hu,Instr.sureAddr,nW (P:=P) false hl hh rl rh h1 h2 (bj n),cL hz,Addr.add_none]
      refine⟨_,hrun,?_⟩
      split at hs
      ·rename_i hl0;subst hl0;cases hs;simp only[Rep];exact⟨b,n,hρ,by simp,by omega,c,T',_,hc,by omega⟩
      ·split at hs
       ·rename_i hlh;cases hs;have hne:¬n=l:=by omega
        simp only[Rep];rw[if_neg hne];refine⟨b,n-l,hρ,rfl,by omega,c,T',_,hc,?_⟩
        have:l*s+(n-l)*s=n*s:=by rw[<- Nat.add_mul];congr 1;omega
        omega
       ·cases hs;simp only[Rep];exact⟨_,n-l,by congr 1;simp;omega,by simp, .inl trivial⟩
theorem v8 {x:Option AV} {v a:Option Value} (h:qq x=some a) (r:RepO ρ E w x v):v=a:=by
 unfold qq at h;split at h
 ·cases h;simpa[RepO]using r
 ·cases h;simp only[RepO,Rep]at r;obtain⟨u,rfl,rfl⟩:=r;rfl
 ·cases h
theorem fo {x:AV} {u:Value} {n:Int} (h:numOf x=some n) (r:Rep ρ E w x u):∃k,u = .int k n:=by
 unfold numOf at h;split at h
 ·cases h;simp only[Rep]at r;exact⟨_,r⟩
 ·cases h;simp only[Rep]at r;exact⟨_,r⟩
 ·cases h
theorem sB {lo' hi':Option AV} {lv hv:Option Value} {l h:Nat} {d:D} {cap:Nat} (isS:Bool) (hl:vz lo'=some (l:Int)) (hh:sq d hi'=some (h:Int)) (rl:RepO ρ E w lo' lv) (rh:RepO ρ E w hi' hv) (h1:l≤h) (h2:h≤d.toList.length) (h3:d.toList.length≤cap):
 (Instr.sliceBounds isS d.toList.length cap lv hv none).run P w = .ok (l,h,cap) w:=by
 have hlow:∀c:BoundsCode,(match lv with|some v=>Instr.sliceBound v h c|none=>pure 0:Sem Nat).run P w = .ok l w:=by
  intro c;cases lo' with
  |none=>simp only[RepO]at rl;subst rl;simp only[vz,aN]at hl;have:l=0:=by omega
         subst this;simp
  |some x=>
   simp only[RepO]at rl;obtain⟨u,rfl,ru⟩:=rl;simp only[vz]at hl;obtain⟨k,rfl⟩:=fo hl ru;exact fY h1 c w
 have hhigh:∀c:BoundsCode,(match hv with|some v=>Instr.sliceBound v cap c|none=>pure d.toList.length:Sem Nat).run P w = .ok h w:=by
  intro c;cases hi' with
  |none=>
   simp only[RepO]at rh;subst rh;simp only[sq,eH,D.len,aN]at hh;have:h=d.toList.length:=by omega
   subst this;simp
  |some x=>
   simp only[RepO]at rh;obtain⟨u,rfl,ru⟩:=rh;simp only[sq]at hh;obtain⟨k,rfl⟩:=fo hh ru;exact fY (by omega) c w
 cases hv with
 |none=>
  have hh':=hhigh .sliceB;simp only[fT,Result.ok.injEq,and_true]at hh';subst hh';cases lv with
  |none=>have:=hlow .sliceB;simp at this;subst this;simp[Instr.sliceBounds]
  |some v=>have:=hlow .sliceB;simp only at this;simp[Instr.sliceBounds,this]
 |some v=>
  have hh':=hhigh;simp only at hh';cases lv with
  |none=>have:=hlow .sliceB;simp at this;subst this;simp[Instr.sliceBounds,hh']
  |some v'=>have:=hlow .sliceB;simp only at this;simp[Instr.sliceBounds,hh',this]
theorem Qr {T T':TypeId} {d:D} {v:AV} {u:Value} {lo' hi':Option AV} {lv hv:Option Value} (ho:aU (eo (.rows T' d) lo' hi')=true) (rl:RepO ρ E w lo' lv) (rh:RepO ρ E w hi' hv)
 (hs:Kd P T T' d lo' hi'=some v) (r:Rep ρ E w (.rows T' d) u):OkP P ρ E w (Instr.sliceAt T u lv hv none) v:=by
 unfold Kd at hs;split at hs
 ·rename_i e hu;cases hb:((sz P e).isSome&&Nat.beq (P.cellsOf e) (PG.cellsOf T')&&layOk PG rowDepth T')with
  |false=>simp[hb]at hs
  |true=>
   simp only[hb,aj]at hs;simp only[bn]at hb;have hz:=aR hb.1.2;cases hl:vz lo' with
   |none=>simp[hl]at hs
   |some l=>
    cases hh:sq d hi' with
    |none=>simp[hl,hh]at hs
    |some h=>
     simp only[hl,hh,bc,cH,aN]at hs;subst hs;have o1:=bo ho (ab .leq 0 l) (by simp[eo,hl,hh])
     have o2:=bo ho (ab .leq l h) (by simp[eo,hl,hh])
     have o3:=bo ho (ab .leq h (ae d)) (by simp[eo,hl,hh])
     rw[bY]at o1 o2 o3;rw[eH]at o3;simp only[ef,D.len,cl]at o1 o2 o3;obtain⟨l,rfl⟩:=vk o1;obtain⟨h,rfl⟩:=vk (Int.le_trans o1 o2);have h1:l≤h:=by omega
     have h2:h≤d.toList.length:=by have:=of_decide_eq_true o3;omega
     have hzz:∃s,sz P e=some s∧s=P.cellsOf e:=by
      cases hi:P.info? e with
      |none=>have:=hb.1.1;simp[sz,hi]at this
      |some i=>exact⟨i.size,by simp[sz,hi],by simp[Program.cellsOf,hi]⟩
     obtain⟨s,hs,hse⟩:=hzz;simp only[Rep]at r;obtain⟨a,cap,rfl,hcap,hr⟩:=r;have hrun:(Instr.sliceAt T (.slice a d.toList.length cap) lv hv none).run P w = .ok (.slice (if cap=l then a else a.map (·.add (l*s))) (h-l) (cap-l)) w:=by
      simp[Instr.sliceAt,bp hu,Instr.slice,sB (P:=P) true hl hh rl rh h1 h2 hcap,cL hs]
     refine⟨_,hrun,?_⟩
     rw[oI];simp only[Rep];have hlist:(D.sub d (l:Int) (h:Int)).toList=(d.toList.drop l).take (h-l):=by
      simp only[D.sub,D.toList,fP]
      congr 1;omega
     have hlen:(D.sub d (l:Int) (h:Int)).toList.length=h-l:=by rw[hlist];simp;omega
     refine⟨if cap=l then a else a.map (·.add (l*s)),cap-l,?_,?_,?_⟩
     ·rw[hlen]
     ·rw[hlen];omega
     ·by_cases hlh:l<h
      ·right
       rcases hr with hr|⟨b,off,rfl,he,hr⟩
       ·have h0:d.toList.length=0:=by rw[hr];rfl
        omega
       ·have hne:¬cap=l:=by omega
        rw[if_neg hne];refine⟨b,off+l*s,by simp[Addr.add_none],he,fun i x hx=> ?_⟩
        rw[hlist,gO]at hx;split at hx
        ·rw[jF]at hx;obtain⟨row,r1,r2,r3⟩:=hr (l+i) x hx;refine⟨row,r1,fun j u hu=> ?_,r3⟩
         rw[hse,hz,show off+l*PG.cellsOf T'+i*PG.cellsOf T'+j=off+(l+i)*PG.cellsOf T'+j from by rw[kq];omega]
         exact r2 j u hu
        ·cases hx
      ·left
       rw[<- List.length_eq_zero_iff,hlen];omega
 ·cases hs
theorem Bt {T:TypeId} {s:ByteArray} {v:AV} {u:Value} {lo' hi':Option AV} {lv hv:Option Value} (ho:aU (match vz lo',Be s hi' with
 |some l,some h=>[ab .leq 0 l,ab .leq l h,ab .leq h (fB s)]
 |_,_=>[])=true) (rl:RepO ρ E w lo' lv) (rh:RepO ρ E w hi' hv)
 (hs:C8 P T s lo' hi'=some v) (r:Rep ρ E w (.us s) u):OkP P ρ E w (Instr.sliceAt T u lv hv none) v:=by
 unfold C8 at hs;split at hs
 ·rename_i hu;cases hl:vz lo' with
  |none=>simp[hl]at hs
  |some l=>
   cases hh:Be s hi' with
   |none=>simp[hl,hh]at hs
   |some h=>
    simp only[hl,hh,bc,cH,aN]at hs;subst hs;have o1:=bo ho (ab .leq 0 l) (by simp[hl,hh])
    have o2:=bo ho (ab .leq l h) (by simp[hl,hh])
    have o3:=bo ho (ab .leq h (fB s)) (by simp[hl,hh])
    rw[bY]at o1 o2 o3;rw[oK]at o3;simp only[ef,cl]at o1 o2 o3;obtain⟨l,rfl⟩:=vk o1;obtain⟨h,rfl⟩:=vk (Int.le_trans o1 o2);have h1:l≤h:=by omega
    have h2:h≤s.size:=by omega
    simp only[Rep]at r;subst r;have hd:(D.list (List.replicate s.size .other)).toList.length=s.size:=by simp[D.toList]
    have hh':sq (.list (List.replicate s.size .other)) hi'=some (h:Int):=by
     cases hi' with
     |none=>simp only[Be,oK,aN]at hh;simp only[sq,eH,D.len,hd];rw[<- hh]
     |some x=>exact hh
    have hb:=sB (P:=P) (w:=w) (cap:=s.size) false hl hh' rl rh h1 (by rw[hd];exact h2) (by rw[hd];exact bj _)
    rw[hd]at hb;refine⟨.string (s.extract l h),?_,by simp only[Rep,S9,fP]⟩
    simp[Instr.sliceAt,bp hu,Instr.slice,hb]
 ·cases hs
theorem wa {lo':Option AV} {lv:Option Value} (hl:gQ lo'=some 0) (rl:RepO ρ E w lo' lv):lv=none∨∃k,lv=some (.int k 0):=by
 cases lo' with
 |none=>simp only[RepO]at rl;exact .inl rl
 |some x=>
  simp only[RepO]at rl;obtain⟨u,rfl,ru⟩:=rl;obtain⟨k,rfl⟩:=g9 hl ru;exact .inr ⟨k,rfl⟩
theorem im {T e:TypeId} {s len cap h m:Nat} {a:Option Addr} {lv hv mv:Option Value} (hu:P.underlying T=some (.slice e)) (hz:sz P e=some s) (hl:lv=none∨∃k,lv=some (.int k 0))
 (hh:(hv=none∧h=len∧mv=none)∨∃k,hv=some (.int k (h:Int))) (hm:(mv=none∧m=cap)∨∃k,mv=some (.int k (m:Int))) (h1:h≤m) (h2:m≤cap) (w:World):
 (Instr.sliceAt T (.slice a len cap) lv hv mv).run P w = .ok (.slice a h m) w:=by
 have ha:(if m=0 then a else a.map (·.add (0*s)))=a:=by
  split
  ·rfl
  ·cases a<;>simp[Addr.add]
 have b0:∀(k:IntKind) (y:Nat) (c:BoundsCode),(Instr.sliceBound (.int k 0) y c).run P w = .ok 0 w:=fun k y c=>fY (P:=P) (n:=0) (lO _) c w
 have bh:∀(k:IntKind) (c:BoundsCode),(Instr.sliceBound (.int k (h:Int)) m c).run P w = .ok h w:=fun k c=>fY h1 c w
 have bm:∀(k:IntKind) (c:BoundsCode),(Instr.sliceBound (.int k (m:Int)) cap c).run P w = .ok m w:=fun k c=>fY h2 c w
 have hb:(Instr.sliceBounds true len cap lv hv mv).run P w = .ok (0,h,m) w:=by
  rcases hm with⟨rfl,rfl⟩|⟨km,rfl⟩
  ·rcases hh with⟨rfl,rfl,_⟩|⟨kh,rfl⟩
   ·rcases hl with rfl|⟨kl,rfl⟩
    ·simp[Instr.sliceBounds]
    ·simp[Instr.sliceBounds,b0]
   ·rcases hl with rfl|⟨kl,rfl⟩
    ·simp[Instr.sliceBounds,bh]
    ·simp[Instr.sliceBounds,bh,b0]
  ·rcases hh with⟨_,_,e⟩|⟨kh,rfl⟩
   ·cases e
   ·rcases hl with rfl|⟨kl,rfl⟩
    ·simp[Instr.sliceBounds,bm,bh]
    ·simp[Instr.sliceBounds,bm,bh,b0]
 simp only[Instr.sliceAt,Instr.slice,dq,bp hu,dL,hb,cL hz,fT,Nat.sub_zero];rw[ha]
theorem Bu {e:TypeId} (h:(sz P e).isSome=true):∃s,sz P e=some s:=Option.isSome_iff_exists.1 h
theorem lW {T':TypeId} {i:Nat} {mm:Int} {cap:Nat} {a:Option Addr} {h m:Nat} (h0:0≤mm) (hcap:mm.toNat≤cap)
 (hr:(mm=0∧cap=0)∨∃b,ρ i=some b∧a=some ⟨b,0,none⟩∧∃c T'' f,w.heap[b]? = some (.cells c T'' f)∧cap*PG.cellsOf T'≤c.size) (h1:h≤m) (h2:m≤cap):
 Rep ρ E w (.osl i T' (h:Int)) (.slice a h m):=by
 simp only[Rep];refine⟨by omega,a,m,by simp,by simpa using h1,?_⟩
 rcases hr with⟨rfl,rfl⟩|⟨b,hb,ha,c,T'',f,hc,hs⟩
 ·exact .inl ⟨by omega,by omega⟩
 ·exact .inr ⟨b,hb,ha,c,T'',f,hc,Nat.le_trans (eQ _ h2) hs⟩
theorem Gg {T T':TypeId} {i:Nat} {m:Int} {v:AV} {u:Value} {lo' hi':Option AV} {lv hv:Option Value} (ho:aU (eo (.osl i T' m) lo' hi')=true) (rl:RepO ρ E w lo' lv) (rh:RepO ρ E w hi' hv)
 (hs:vB P T T' i (.osl i T' m) lo' hi'=some v) (r:Rep ρ E w (.osl i T' m) u):OkP P ρ E w (Instr.sliceAt T u lv hv none) v:=by
 unfold vB at hs;split at hs
 case h_2=>cases hs
 case h_1 e hu=>
  cases hb:((sz P e).isSome&&Nat.beq (P.cellsOf e) (PG.cellsOf T'))with
  |false=>simp[hb]at hs
  |true=>
   simp only[hb,aj]at hs;simp only[bn]at hb;obtain⟨s,hz⟩:=Bu hb.1;obtain⟨l,hl,hs⟩:=aT.1 hs;obtain⟨h,hh,hs⟩:=aT.1 hs;cases hl0:Nat.beq l 0 with
   |false=>simp[hl0]at hs
   |true=>
    obtain rfl:=aR hl0;simp only[hl0,aj,aN]at hs;subst hs;simp only[Rep]at r;obtain⟨h0,a,cap,rfl,hcap,hr⟩:=r;have hlv:=wa hl rl;cases hi' with
    |none=>
     simp only[RepO]at rh;subst rh;simp only[aN]at hh;subst hh;obtain⟨n,rfl⟩:=vk h0;simp only[fP]at hcap ⊢;exact⟨_,im hu hz hlv (.inl ⟨rfl,rfl,rfl⟩) (.inl ⟨rfl,rfl⟩) hcap (bj _) w,lW h0 (by simpa using hcap) hr hcap (bj _)⟩
    |some y=>
     simp only[RepO]at rh;obtain⟨yv,rfl,ry⟩:=rh;simp only at hh;obtain⟨k,rfl⟩:=fo hh ry;have o1:=bo ho (ab .leq 0 h) (by simp[eo,hh])
     have o2:=bo ho (ab .leq h m) (by simp[eo,hh])
     rw[bY]at o1 o2;simp only[ef,cl]at o1 o2;obtain⟨n,rfl⟩:=vk o1;exact⟨_,im hu hz hlv (.inr ⟨k,rfl⟩) (.inl ⟨rfl,rfl⟩) (by omega) (bj _) w,lW h0 hcap hr (by omega) (bj _)⟩
theorem Gh {x:AV} {u:Value} (h:isSlice x=true) (r:Rep ρ E w x u):∃a l c,u = .slice a l c:=by
 unfold isSlice at h;split at h
 ·simp only[Rep]at r;exact⟨_,_,_,r⟩
 ·simp only[Rep]at r;obtain⟨_,_,_,rfl,_⟩:=r;exact⟨_,_,_,rfl⟩
 ·simp only[Rep]at r;obtain⟨_,_,rfl,_⟩:=r;exact⟨_,_,_,rfl⟩
 ·simp only[Rep]at r;obtain⟨_,_,rfl,_⟩:=r;exact⟨_,_,_,rfl⟩
 ·simp only[Rep]at r;obtain⟨_,_,_,_,rfl⟩:=r;exact⟨_,_,_,rfl⟩
 ·simp only[Rep]at r;obtain⟨_,_,_,rfl,_⟩:=r;exact⟨_,_,_,rfl⟩
 ·simp only[Rep]at r;obtain⟨_,rfl⟩:=r;exact⟨_,_,_,rfl⟩
 ·cases h
theorem NV {x:AV} {u:Value} (h:isZ x=true) (r:Rep ρ E w x u):∃k,u = .int k 0:=by
 unfold isZ at h;split at h
 ·simp only[Rep]at r;exact⟨_,r⟩
 ·cases h
theorem Qs {T:TypeId} {x v m:AV} {u:Value} {lo' hi':Option AV} {lv hv mv:Option Value} (ho:aU (mN x hi' m)=true) (rl:RepO ρ E w lo' lv) (rh:RepO ρ E w hi' hv) (rm:RepO ρ E w (some m) mv)
 (hs:Ke P T x lo' hi' m=some v) (r:Rep ρ E w x u):OkP P ρ E w (Instr.sliceAt T u lv hv mv) v:=by
 unfold Ke at hs;split at hs
 case h_2=>cases hs
 case h_1 e hu=>
  cases hb:(sz P e).isSome with
  |false=>simp[hb]at hs
  |true=>
   simp only[hb,aj]at hs;obtain⟨s,hz⟩:=Bu hb;obtain⟨l,hl,hs⟩:=aT.1 hs;cases hl0:Nat.beq l 0 with
   |false=>simp[hl0]at hs
   |true=>
    obtain rfl:=aR hl0;simp only[hl0,aj]at hs;have hlv:=wa hl rl;simp only[RepO]at rm;obtain⟨mu,rfl,rm⟩:=rm;obtain⟨h,rfl,hs3⟩:=aT.1 hs;clear hs;simp only[RepO]at rh;obtain⟨hu',rfl,rh⟩:=rh;cases hzz:(isZ h&&(isZ m&&isSlice x))with
    |true=>
     simp only[hzz,aj,aN]at hs3;subst hs3;simp only[bn]at hzz;obtain⟨k,rfl⟩:=NV hzz.1 rh;obtain⟨k',rfl⟩:=NV hzz.2.1 rm;obtain⟨a,l,c,rfl⟩:=Gh hzz.2.2 r;exact⟨_,im (h:=0) (m:=0) hu hz hlv (.inr ⟨k,rfl⟩) (.inr ⟨k',rfl⟩) (bj _) (lO _) w,by simp only[Rep];exact⟨a,rfl⟩⟩
    |false=>
     simp only[hzz,aI]at hs3;cases x with
     |osl i T' mm=>
      simp only[mN,hzz,aI]at ho;simp only[Rep]at r;obtain⟨h0,a,cap,rfl,hcap,hr⟩:=r;obtain⟨hn,hhn,hs4⟩:=aT.1 hs3;obtain⟨mn,hmn,hs5⟩:=aT.1 hs4;rw[hhn,hmn]at ho;cases hc:Nat.beq (P.cellsOf e) (PG.cellsOf T')with
      |false=>simp[hc]at hs5
      |true=>
       simp only[hc,aj,aN]at hs5;subst hs5;obtain⟨k,rfl⟩:=fo hhn rh;obtain⟨k',rfl⟩:=fo hmn rm;have o1:=bo ho (ab .eql hn mm) (by simp)
       have o2:=bo ho (ab .eql mn mm) (by simp)
       rw[bY]at o1 o2;simp only[ef,gk]at o1 o2;subst o1 o2;obtain⟨n,rfl⟩:=vk h0;simp only[fP]at hcap ⊢;exact⟨_,im hu hz hlv (.inr ⟨k,rfl⟩) (.inr ⟨k',rfl⟩) (bj _) hcap w,lW h0 (by simpa using hcap) hr (bj _) hcap⟩
     |sl i z off len=>
      obtain⟨hn,hhn,hs4⟩:=aT.1 hs3;obtain⟨mn,hmn,hs5⟩:=aT.1 hs4;split at hs5
      ·rename_i hle;cases hs5;obtain⟨k,rfl⟩:=g9 hhn rh;obtain⟨k',rfl⟩:=g9 hmn rm;simp only[Rep]at r;obtain⟨b,cap,hb,rfl,hcap,c,T',f,hc,hsz⟩:=r;refine⟨_,im hu hz hlv (.inr ⟨k,rfl⟩) (.inr ⟨k',rfl⟩) hle.1 (by omega) w,?_⟩
       simp only[Rep];have:mn*z≤cap*z:=eQ z (by omega)
       exact⟨b,mn,hb,rfl,hle.1,c,T',f,hc,by omega⟩
      ·cases hs5
     |_=>cases hs3
noncomputable def slObl (x:AV) (lo hi mx:Option AV):List Bool:=match mx with|none=>eo x lo hi|some m=>mN x hi m
theorem ok_slice (inv:Inv lo w0 ρ E H w) {T:TypeId} {x v:AV} {u:Value} {lo' hi' mx:Option AV} {lv hv mv:Option Value}
 (rl:RepO ρ E w lo' lv) (rh:RepO ρ E w hi' hv) (rm:RepO ρ E w mx mv) (ho:aU (slObl x lo' hi' mx)=true) (hs:kB P H T x lo' hi' mx=some v) (r:Rep ρ E w x u):OkP P ρ E w (Instr.sliceAt T u lv hv mv) v:=by
 cases mx with
 |some m=>exact Qs ho rl rh rm hs r
 |none=>
  simp only[RepO]at rm;subst rm
  replace hs:kB P H T x lo' hi' none=some v:=hs
  replace ho:aU (eo x lo' hi')=true:=ho
  simp only[kB]at hs;split at hs
  ·exact Gg ho rl rh hs r
  ·exact Qr ho rl rh hs r
  ·rename_i xs;cases hl:gQ lo' with
   |none=>simp[hl]at hs
   |some l=>
    cases hh:gD xs.length hi' with
    |none=>simp[hl,hh]at hs
    |some h=>simp only[hl,hh,bc]at hs;exact Qo hl hh rl rh hs r
  ·rename_i i z off len;cases hl:gQ lo' with
   |none=>simp[hl]at hs
   |some l=>
    cases hh:gD len hi' with
    |none=>simp[hl,hh]at hs
    |some h=>simp only[hl,hh,bc]at hs;exact Qp hl hh rl rh hs r
  ·cases hl:gQ lo' with
   |none=>simp[hl]at hs
   |some l=>simp only[hl,bc]at hs;exact Qq inv hl rl rh hs r
  ·exact Bt ho rl rh hs r
  ·rename_i v0;split at hs
   ·rename_i a b ha hb;rw[v8 ha rl,v8 hb rh];simp only[Rep]at r;subst r;exact Kn hs
   ·rename_i hab;cases v0<;>simp only[NK]at hs<;>try (cases hs;done)
    rename_i s;simp only[Rep]at r;subst r;refine Bt (s:=s) ?_ rl rh hs (by simp only[Rep])
    simp only[eo]at ho;exact ho
  ·cases hs
theorem RepM.length:∀{xs:List (Value×AV)} {es:List MapEntry},RepM ρ E w xs es->xs.length=es.length
 | [],es,h=>by simp only[RepM]at h;simp[h]
 | (k,v)::xs,es,h=>by
   simp only[RepM]at h;obtain⟨e,es',rfl,_,_,h2⟩:=h;simp[RepM.length h2]
theorem Inv.mapAt (inv:Inv lo w0 ρ E H w) {i b:Nat} {es:List (Value×AV)} (h:getM H i=some es) (hb:ρ i=some b):
 ∃arr clk,w.heap[b]? = some (.map arr clk)∧RepM ρ E w es arr.toList∧F4 arr clk:=inv.blk i (.map es) b (oO h) hb
theorem run_getObj_map {b:Nat} {arr:Array MapEntry} {clk:Nat} {w:World} (hm:w.heap[b]? = some (.map arr clk)):(getObj b).run P w = .ok (.map arr clk) w:=by
 simp[getObj,Sem.run,hm]
theorem ok_lenP {T ty:TypeId} {x v:AV} {u:Value} (h:lenP P T x=some v) (r:Rep ρ E w x u):OkP P ρ E w (Builtin.len_ #[T] ty #[u]) v:=by
 unfold lenP at h;split at h
 case h_1 hu=>cases h;simp only[Rep]at r;obtain⟨_,_,_,rfl,_⟩:=r;exact dS (by simp[Builtin.len_,bp hu,goInt])
 case h_2 hu=>cases h;simp only[Rep]at r;obtain⟨_,_,rfl,_⟩:=r;exact dS (by simp[Builtin.len_,bp hu,goInt])
 case h_3 hu=>cases h;simp only[Rep]at r;subst r;exact dS (by simp[Builtin.len_,bp hu,goInt])
 case h_4 hu=>cases h;simp only[Rep]at r;obtain⟨_,rfl⟩:=r;exact dS (by simp[Builtin.len_,bp hu,goInt])
 case h_5 hu=>cases h;simp only[Rep]at r;subst r;exact dS (by simp[Builtin.len_,bp hu,goInt])
 case h_6 hu=>cases h;simp only[Rep]at r;obtain⟨_,_,rfl,_⟩:=r;exact⟨.int .i64 _,by simp[Builtin.len_,bp hu,goInt];rfl,by simp only[Rep,eH,D.len]⟩
 case h_7 hu=>cases h;simp only[Rep]at r;obtain⟨⟨_,_,rfl,_⟩,_⟩:=r;exact⟨.int .i64 _,by simp[Builtin.len_,bp hu,goInt];rfl,by simp only[Rep,eH,D.len]⟩
 case h_8 m hu=>
  cases h;simp only[Rep]at r;obtain⟨h0,_,_,rfl,_⟩:=r;exact⟨.int .i64 m,by simp[Builtin.len_,bp hu,goInt];omega,by simp only[Rep]⟩
 case h_9 hu=>cases h;simp only[Rep]at r;subst r;exact⟨.int .i64 _,by simp[Builtin.len_,bp hu,goInt];rfl,by simp only[Rep,oK]⟩
 case h_10 es hu=>
  cases h;simp only[Rep]at r;obtain⟨b,arr,clk,rfl,_,hm,hr,_⟩:=r;have hl:arr.size=es.length:=by rw[<- Array.length_toList,hr.length]
  exact dS (by simp[Builtin.len_,bp hu,goInt,run_getObj_map hm,hl])
 case h_11 hu=>cases h;exact dS (by simp[Builtin.len_,bp hu,goInt])
 case h_12=>cases h
theorem ok_cap {T ty:TypeId} {x v:AV} {u:Value} (h:capA P T x=some v) (r:Rep ρ E w x u):OkP P ρ E w (Builtin.cap_ #[T] ty #[u]) v:=by
 unfold capA at h;split at h
 ·rename_i e hu;cases h;simp only[Rep]at r;subst r;exact⟨.int .i64 0,by simp[Builtin.cap_,bp hu,goInt],by simp only[Rep]⟩
 ·rename_i e hu;cases h;simp only[Rep]at r;obtain⟨a,rfl⟩:=r;exact⟨.int .i64 0,by simp[Builtin.cap_,bp hu,goInt],by simp only[Rep]⟩
 ·cases h
theorem ok_len (inv:Inv lo w0 ρ E H w) {T ty:TypeId} {x v:AV} {u:Value} (h:vG P T H x=some v) (r:Rep ρ E w x u):OkP P ρ E w (Builtin.len_ #[T] ty #[u]) v:=by
 unfold vG at h;split at h
 ·rename_i i;split at h
  ·rename_i es hg;unfold lenM at h;split at h
   ·rename_i hu;cases h;simp only[Rep]at r;obtain⟨b,hb,rfl⟩:=r;obtain⟨arr,clk,hm,hr,_⟩:=inv.blk i _ b hg hb;have hl:arr.size=es.length:=by rw[<- Array.length_toList,hr.length]
    exact dS (by simp[Builtin.len_,bp hu,goInt,run_getObj_map hm,hl])
   ·cases h
  ·rename_i kT vT d hg;unfold lenU at h;split at h
   ·rename_i hu;cases h;simp only[Rep]at r;obtain⟨b,hb,rfl⟩:=r;obtain⟨arr,clk,hm,hr,_⟩:=inv.blk i _ b hg hb;have hl:arr.size=d.toList.length:=by rw[<- Array.length_toList, <- hr.length];simp[gR]
    exact⟨.int .i64 arr.size,by simp[Builtin.len_,bp hu,goInt,run_getObj_map hm],by simp only[Rep];rw[eH,hl];rfl⟩
   ·cases h
  ·cases h
 ·exact ok_lenP h r
end
end Go.AM
