/-
  Single operations: slices of slices, lengths, append, copy.
-/
import Derived.Test.YtiojjmlccehpoaaGreatAm7
set_option linter.unusedSimpArgs false
set_option linter.unusedVariables false
namespace Go.AM
section
variable {P:Program} {lo:Nat->Prop} {w0:World} {ρ:Nat->Option Nat} {E:Nat->Prop} {H:Hp} {w:World}
theorem ij {x:AV} {u:Value} {n:Nat} (h:wu x=some n) (r:Rep ρ E w x u):∃k,u = .int k (n:Int):=by
 unfold wu at h;split at h
 ·split at h
  ·rename_i k m hm;cases h;simp only[Rep]at r;exact⟨k,by rw[r];congr 1;omega⟩
  ·cases h
 ·cases h
theorem gb {k:IntKind} {n y:Nat} (h:n≤y) (code:BoundsCode) (w:World):(Instr.sliceBound (.int k (n:Int)) y code).run P w = .ok n w:=by
 have h1:(0:Int)≤(n:Int)∧(n:Int)≤(y:Int):=by omega
 simp only[Instr.sliceBound,asIntOf,pure_bind,h1,and_self,be,eY]
 rfl
def RepO (ρ:Nat->Option Nat) (E:Nat->Prop) (w:World):Option AV->Option Value->Prop
 |none,v=>v=none
 |some x,v=>∃u,v=some u∧Rep ρ E w x u
theorem oo {lo' hi':Option AV} {lv hv:Option Value} {l h len cap:Nat} (isS:Bool) (hl:g6 lo'=some l) (hh:gM len hi'=some h) (rl:RepO ρ E w lo' lv) (rh:RepO ρ E w hi' hv) (h1:l≤h) (h2:h≤len) (h3:len≤cap):
 (Instr.sliceBounds isS len cap lv hv none).run P w = .ok (l,h,cap) w:=by
 have hlow:∀c:BoundsCode,(match lv with|some v=>Instr.sliceBound v h c|none=>pure 0:Sem Nat).run P w = .ok l w:=by
  intro c;cases lo' with
  |none=>simp only[RepO]at rl;subst rl;simp only[g6,aQ]at hl;subst hl;simp
  |some x=>
   simp only[RepO]at rl;obtain⟨u,rfl,ru⟩:=rl;simp only[g6]at hl;obtain⟨k,rfl⟩:=ij hl ru;exact gb h1 c w
 have hhigh:∀c:BoundsCode,(match hv with|some v=>Instr.sliceBound v cap c|none=>pure len:Sem Nat).run P w = .ok h w:=by
  intro c;cases hi' with
  |none=>simp only[RepO]at rh;subst rh;simp only[gM,aQ]at hh;subst hh;simp
  |some x=>
   simp only[RepO]at rh;obtain⟨u,rfl,ru⟩:=rh;simp only[gM]at hh;obtain⟨k,rfl⟩:=ij hh ru;exact gb (by omega) c w
 cases hv with
 |none=>
  have hh':=hhigh .sliceB;simp only[fY,Result.ok.injEq,and_true]at hh';subst hh';cases lv with
  |none=>have:=hlow .sliceB;simp at this;subst this;simp[Instr.sliceBounds]
  |some v=>have:=hlow .sliceB;simp only at this;simp[Instr.sliceBounds,this]
 |some v=>
  have hh':=hhigh;simp only at hh';cases lv with
  |none=>have:=hlow .sliceB;simp at this;subst this;simp[Instr.sliceBounds,hh']
  |some v'=>have:=hlow .sliceB;simp only at this;simp[Instr.sliceBounds,hh',this]
theorem So {T:TypeId} {xs:List (List AV)} {v:AV} {u:Value} {lo' hi':Option AV} {lv hv:Option Value} {l h:Nat}
 (hl:g6 lo'=some l) (hh:gM xs.length hi'=some h) (rl:RepO ρ E w lo' lv) (rh:RepO ρ E w hi' hv)
 (hs:LD P T xs l h=some v) (r:Rep ρ E w (.esl xs) u):OkP P ρ E w (Instr.sliceAt T u lv hv none) v:=by
 unfold LD at hs;split at hs
 case isFalse=>cases hs
 case isTrue hb=>
  obtain⟨h1,h2⟩:=hb;split at hs
  case h_2=>cases hs
  case h_1 e hu=>
   cases hz:sz P e with
   |none=>simp[hz]at hs
   |some s=>
    simp only[hz,bo]at hs;simp only[Rep]at r;obtain⟨a,cap,rfl,hcap,hr⟩:=r;have hrun:(Instr.sliceAt T (.slice a xs.length cap) lv hv none).run P w = .ok (.slice (if cap=l then a else a.map (·.add (l*s))) (h-l) (cap-l)) w:=by
     simp[Instr.sliceAt,bz hu,Instr.slice,oo (P:=P) true hl hh rl rh h1 h2 hcap,cL hz]
    refine⟨_,hrun,?_⟩
    split at hs
    ·rename_i hl0;subst hl0;cases hs;simp only[Rep];have ea:(if cap=0 then a else a.map (·.add (0*s)))=a:=by
      split
      ·rfl
      ·cases a<;>simp[Addr.add]
     rw[ea];refine⟨a,cap-0,?_,?_,?_⟩
     ·simp only[fv];congr 1;omega
     ·simp only[fv];omega
     ·rcases hr with rfl|⟨b,off,z,rfl,he,hr⟩
      ·left;simp
      ·right;exact⟨b,off,z,rfl,he,hr.take h⟩
    ·split at hs
     ·rename_i hlh;cases hx:xs[l]? with
      |none=>simp[hx]at hs
      |some c=>
       simp only[hx,bo]at hs;split at hs
       ·rename_i hcl;cases hs;rcases hr with rfl|⟨b,off,z,rfl,he,hr⟩
        ·simp at hx
        ·have hcz:z=s:=by rw[<- hcl];exact(hr.get hx).1.symm
         subst hcz;have hne:¬cap=l:=by omega
         simp only[Rep];rw[if_neg hne];refine⟨some ⟨b,off+l*z,none⟩,cap-l,?_,?_, .inr ⟨b,off+l*z,z,?_,he,?_⟩⟩
         ·simp only[cI,Addr.add_none,iu,fv];congr 1;omega
         ·simp only[iu,fv];omega
         ·rfl
         ·have:=(hr.take h).drop l (by simp only[fv];omega)
          exact this
       ·cases hs
     ·cases hs;simp only[Rep];exact⟨_,cap-l,by congr 1;simp;omega,by simp, .inl trivial⟩
theorem Sq {T:TypeId} {i z off len:Nat} {v:AV} {u:Value} {lo' hi':Option AV} {lv hv:Option Value} {l h:Nat}
 (hl:g6 lo'=some l) (hh:gM len hi'=some h) (rl:RepO ρ E w lo' lv) (rh:RepO ρ E w hi' hv)
 (hs:LE P T i z off len l h=some v) (r:Rep ρ E w (.sl i z off len) u):OkP P ρ E w (Instr.sliceAt T u lv hv none) v:=by
 unfold LE at hs;split at hs
 case isFalse=>cases hs
 case isTrue hb=>
  obtain⟨h1,h2⟩:=hb;split at hs
  case h_2=>cases hs
  case h_1 e hu=>
   cases hz:sz P e with
   |none=>simp[hz]at hs
   |some s=>
    simp only[hz,bo]at hs;split at hs
    case isFalse=>cases hs
    case isTrue hsz=>
     subst hsz;simp only[Rep]at r;obtain⟨b,cap,hρ,rfl,hcap,c,T',f,hc,hfit⟩:=r;have hrun:(Instr.sliceAt T (.slice (some ⟨b,off,none⟩) len cap) lv hv none).run P w = .ok (.slice (if cap=l then some ⟨b,off,none⟩else some (⟨b,off+l*s,none⟩)) (h-l) (cap-l)) w:=by
      simp[Instr.sliceAt,bz hu,Instr.slice,oo (P:=P) true hl hh rl rh h1 h2 hcap,cL hz,Addr.add_none]
     refine⟨_,hrun,?_⟩
     split at hs
     ·rename_i hl0;subst hl0;cases hs;simp only[Rep];refine⟨b,cap,hρ,?_,by omega,c,T',f,hc,hfit⟩
      simp
     ·split at hs
      ·rename_i hlh;cases hs;have hne:¬cap=l:=by omega
       simp only[Rep];rw[if_neg hne];refine⟨b,cap-l,hρ,rfl,by omega,c,T',f,hc,?_⟩
       have:l*s+(cap-l)*s=cap*s:=by rw[<- Nat.add_mul];congr 1;omega
       omega
      ·cases hs;simp only[Rep];exact⟨_,cap-l,by congr 1;simp;omega,by simp, .inl trivial⟩
theorem Sr (inv:Inv lo w0 ρ E H w) {T:TypeId} {i off:Nat} {v:AV} {u:Value} {lo' hi':Option AV} {lv hv:Option Value} {l:Nat}
 (hl:g6 lo'=some l) (rl:RepO ρ E w lo' lv) (rh:RepO ρ E w hi' hv)
 (hs:D1 P H T i off l hi'=some v) (r:Rep ρ E w (.ptr i off) u):OkP P ρ E w (Instr.sliceAt T u lv hv none) v:=by
 unfold D1 at hs;split at hs
 case h_2=>cases hs
 case h_1 n e hu=>
  cases hz:sz P e with
  |none=>simp[hz]at hs
  |some s=>
   cases hh:gM n hi' with
   |none=>simp[hz,hh]at hs
   |some h=>
    cases hg:getB H i with
    |none=>simp[hz,hh,hg]at hs
    |some cs=>
     simp only[hz,hh,hg,bo]at hs;split at hs
     case isFalse=>cases hs
     case isTrue hb=>
      obtain⟨h1,h2,hfit⟩:=hb;simp only[Rep]at r;obtain⟨b,hρ,rfl⟩:=r;obtain⟨c,T',hc,hlc,_⟩:=inv.cells hg hρ;have hrun:(Instr.sliceAt T (.pointer (some ⟨b,off,none⟩)) lv hv none).run P w = .ok (.slice (some (if n=l then⟨b,off,none⟩else(⟨b,off+l*s,none⟩))) (h-l) (n-l)) w:=by
       simp[Instr.sliceAt,bz hu,Instr.sureAddr,oo (P:=P) false hl hh rl rh h1 h2 (aP n),cL hz,Addr.add_none]
      refine⟨_,hrun,?_⟩
      split at hs
      ·rename_i hl0;subst hl0;cases hs;simp only[Rep];exact⟨b,n,hρ,by simp,by omega,c,T',_,hc,by omega⟩
      ·split at hs
       ·rename_i hlh;cases hs;have hne:¬n=l:=by omega
        simp only[Rep];rw[if_neg hne];refine⟨b,n-l,hρ,rfl,by omega,c,T',_,hc,?_⟩
        have:l*s+(n-l)*s=n*s:=by rw[<- Nat.add_mul];congr 1;omega
        omega
       ·cases hs;simp only[Rep];exact⟨_,n-l,by congr 1;simp;omega,by simp, .inl trivial⟩
theorem wX {x:Option AV} {v a:Option Value} (h:qQ x=some a) (r:RepO ρ E w x v):v=a:=by
 unfold qQ at h;split at h
 ·cases h;simpa[RepO]using r
 ·cases h;simp only[RepO,Rep]at r;obtain⟨u,rfl,rfl⟩:=r;rfl
 ·cases h
theorem fB {x:AV} {u:Value} {n:Int} (h:numOf x=some n) (r:Rep ρ E w x u):∃k,u = .int k n:=by
 unfold numOf at h;split at h
 ·cases h;simp only[Rep]at r;exact⟨_,r⟩
 ·cases h;simp only[Rep]at r;exact⟨_,r⟩
 ·cases h
theorem ti {lo' hi':Option AV} {lv hv:Option Value} {l h:Nat} {d:D} {cap:Nat} (isS:Bool) (hl:wv lo'=some (l:Int)) (hh:s8 d hi'=some (h:Int)) (rl:RepO ρ E w lo' lv) (rh:RepO ρ E w hi' hv) (h1:l≤h) (h2:h≤d.toList.length) (h3:d.toList.length≤cap):
 (Instr.sliceBounds isS d.toList.length cap lv hv none).run P w = .ok (l,h,cap) w:=by
 have hlow:∀c:BoundsCode,(match lv with|some v=>Instr.sliceBound v h c|none=>pure 0:Sem Nat).run P w = .ok l w:=by
  intro c;cases lo' with
  |none=>simp only[RepO]at rl;subst rl;simp only[wv,aQ]at hl;have:l=0:=by omega
         subst this;simp
  |some x=>
   simp only[RepO]at rl;obtain⟨u,rfl,ru⟩:=rl;simp only[wv]at hl;obtain⟨k,rfl⟩:=fB hl ru;exact gb h1 c w
 have hhigh:∀c:BoundsCode,(match hv with|some v=>Instr.sliceBound v cap c|none=>pure d.toList.length:Sem Nat).run P w = .ok h w:=by
  intro c;cases hi' with
  |none=>
   simp only[RepO]at rh;subst rh;simp only[s8,eN,D.len,aQ]at hh;have:h=d.toList.length:=by omega
   subst this;simp
  |some x=>
   simp only[RepO]at rh;obtain⟨u,rfl,ru⟩:=rh;simp only[s8]at hh;obtain⟨k,rfl⟩:=fB hh ru;exact gb (by omega) c w
 cases hv with
 |none=>
  have hh':=hhigh .sliceB;simp only[fY,Result.ok.injEq,and_true]at hh';subst hh';cases lv with
  |none=>have:=hlow .sliceB;simp at this;subst this;simp[Instr.sliceBounds]
  |some v=>have:=hlow .sliceB;simp only at this;simp[Instr.sliceBounds,this]
 |some v=>
  have hh':=hhigh;simp only at hh';cases lv with
  |none=>have:=hlow .sliceB;simp at this;subst this;simp[Instr.sliceBounds,hh']
  |some v'=>have:=hlow .sliceB;simp only at this;simp[Instr.sliceBounds,hh',this]
theorem Ss {T T':TypeId} {d:D} {v:AV} {u:Value} {lo' hi':Option AV} {lv hv:Option Value} (ho:bf (ey (.rows T' d) lo' hi')=true) (rl:RepO ρ E w lo' lv) (rh:RepO ρ E w hi' hv)
 (hs:LF P T T' d lo' hi'=some v) (r:Rep ρ E w (.rows T' d) u):OkP P ρ E w (Instr.sliceAt T u lv hv none) v:=by
 unfold LF at hs;split at hs
 ·rename_i e hu;cases hb:((sz P e).isSome&&Nat.beq (P.cellsOf e) (PG.cellsOf T')&&layOk PG rowDepth T')with
  |false=>simp[hb]at hs
  |true=>
   simp only[hb,ap]at hs;simp only[bu]at hb;have hz:=aV hb.1.2;cases hl:wv lo' with
   |none=>simp[hl]at hs
   |some l=>
    cases hh:s8 d hi' with
    |none=>simp[hl,hh]at hs
    |some h=>
     simp only[hl,hh,bo,cI,aQ]at hs;subst hs;have o1:=bx ho (ae .leq 0 l) (by simp[ey,hl,hh])
     have o2:=bx ho (ae .leq l h) (by simp[ey,hl,hh])
     have o3:=bx ho (ae .leq h (ac d)) (by simp[ey,hl,hh])
     rw[bY]at o1 o2 o3;rw[eN]at o3;simp only[eo,D.len,cn]at o1 o2 o3;obtain⟨l,rfl⟩:=wg o1;obtain⟨h,rfl⟩:=wg (Int.le_trans o1 o2);have h1:l≤h:=by omega
     have h2:h≤d.toList.length:=by have:=of_decide_eq_true o3;omega
     have hzz:∃s,sz P e=some s∧s=P.cellsOf e:=by
      cases hi:P.info? e with
      |none=>have:=hb.1.1;simp[sz,hi]at this
      |some i=>exact⟨i.size,by simp[sz,hi],by simp[Program.cellsOf,hi]⟩
     obtain⟨s,hs,hse⟩:=hzz;simp only[Rep]at r;obtain⟨a,cap,rfl,hcap,hr⟩:=r;have hrun:(Instr.sliceAt T (.slice a d.toList.length cap) lv hv none).run P w = .ok (.slice (if cap=l then a else a.map (·.add (l*s))) (h-l) (cap-l)) w:=by
      simp[Instr.sliceAt,bz hu,Instr.slice,ti (P:=P) true hl hh rl rh h1 h2 hcap,cL hs]
     refine⟨_,hrun,?_⟩
     rw[o6];simp only[Rep];have hlist:(D.sub d (l:Int) (h:Int)).toList=(d.toList.drop l).take (h-l):=by
      simp only[D.sub,D.toList,eY]
      congr 1;omega
     have hlen:(D.sub d (l:Int) (h:Int)).toList.length=h-l:=by rw[hlist];simp;omega
     refine⟨if cap=l then a else a.map (·.add (l*s)),cap-l,?_,?_,?_⟩
     ·rw[hlen]
     ·rw[hlen];omega
     ·by_cases hlh:l<h
      ·right
       rcases hr with hr|⟨b,off,rfl,he,hr⟩
       ·have h0:d.toList.length=0:=by rw[hr];rfl
        omega
       ·have hne:¬cap=l:=by omega
        rw[if_neg hne];refine⟨b,off+l*s,by simp[Addr.add_none],he,fun i x hx=> ?_⟩
        rw[hlist,gW]at hx;split at hx
        ·rw[jY]at hx;obtain⟨row,r1,r2,r3⟩:=hr (l+i) x hx;refine⟨row,r1,fun j u hu=> ?_,r3⟩
         rw[hse,hz,show off+l*PG.cellsOf T'+i*PG.cellsOf T'+j=off+(l+i)*PG.cellsOf T'+j from by rw[kP];omega]
         exact r2 j u hu
        ·cases hx
      ·left
       rw[<- List.length_eq_zero_iff,hlen];omega
 ·cases hs
theorem Cj {T:TypeId} {s:ByteArray} {v:AV} {u:Value} {lo' hi':Option AV} {lv hv:Option Value} (ho:bf (match wv lo',B4 s hi' with
 |some l,some h=>[ae .leq 0 l,ae .leq l h,ae .leq h (fF s)]
 |_,_=>[])=true) (rl:RepO ρ E w lo' lv) (rh:RepO ρ E w hi' hv)
 (hs:D2 P T s lo' hi'=some v) (r:Rep ρ E w (.us s) u):OkP P ρ E w (Instr.sliceAt T u lv hv none) v:=by
 unfold D2 at hs;split at hs
 ·rename_i hu;cases hl:wv lo' with
  |none=>simp[hl]at hs
  |some l=>
   cases hh:B4 s hi' with
   |none=>simp[hl,hh]at hs
   |some h=>
    simp only[hl,hh,bo,cI,aQ]at hs;subst hs;have o1:=bx ho (ae .leq 0 l) (by simp[hl,hh])
    have o2:=bx ho (ae .leq l h) (by simp[hl,hh])
    have o3:=bx ho (ae .leq h (fF s)) (by simp[hl,hh])
    rw[bY]at o1 o2 o3;rw[o8]at o3;simp only[eo,cn]at o1 o2 o3;obtain⟨l,rfl⟩:=wg o1;obtain⟨h,rfl⟩:=wg (Int.le_trans o1 o2);have h1:l≤h:=by omega
    have h2:h≤s.size:=by omega
    simp only[Rep]at r;subst r;have hd:(D.list (List.replicate s.size .other)).toList.length=s.size:=by simp[D.toList]
    have hh':s8 (.list (List.replicate s.size .other)) hi'=some (h:Int):=by
     cases hi' with
     |none=>simp only[B4,o8,aQ]at hh;simp only[s8,eN,D.len,hd];rw[<- hh]
     |some x=>exact hh
    have hb:=ti (P:=P) (w:=w) (cap:=s.size) false hl hh' rl rh h1 (by rw[hd];exact h2) (by rw[hd];exact aP _)
    rw[hd]at hb;refine⟨.string (s.extract l h),?_,by simp only[Rep,Vv,eY]⟩
    simp[Instr.sliceAt,bz hu,Instr.slice,hb]
 ·cases hs
theorem wY {lo':Option AV} {lv:Option Value} (hl:g6 lo'=some 0) (rl:RepO ρ E w lo' lv):lv=none∨∃k,lv=some (.int k 0):=by
 cases lo' with
 |none=>simp only[RepO]at rl;exact .inl rl
 |some x=>
  simp only[RepO]at rl;obtain⟨u,rfl,ru⟩:=rl;obtain⟨k,rfl⟩:=ij hl ru;exact .inr ⟨k,rfl⟩
theorem iC {T e:TypeId} {s len cap h m:Nat} {a:Option Addr} {lv hv mv:Option Value} (hu:P.underlying T=some (.slice e)) (hz:sz P e=some s) (hl:lv=none∨∃k,lv=some (.int k 0))
 (hh:(hv=none∧h=len∧mv=none)∨∃k,hv=some (.int k (h:Int))) (hm:(mv=none∧m=cap)∨∃k,mv=some (.int k (m:Int))) (h1:h≤m) (h2:m≤cap) (w:World):
 (Instr.sliceAt T (.slice a len cap) lv hv mv).run P w = .ok (.slice a h m) w:=by
 have ha:(if m=0 then a else a.map (·.add (0*s)))=a:=by
  split
  ·rfl
  ·cases a<;>simp[Addr.add]
 have b0:∀(k:IntKind) (y:Nat) (c:BoundsCode),(Instr.sliceBound (.int k 0) y c).run P w = .ok 0 w:=fun k y c=>gb (P:=P) (n:=0) (lR _) c w
 have bh:∀(k:IntKind) (c:BoundsCode),(Instr.sliceBound (.int k (h:Int)) m c).run P w = .ok h w:=fun k c=>gb h1 c w
 have bm:∀(k:IntKind) (c:BoundsCode),(Instr.sliceBound (.int k (m:Int)) cap c).run P w = .ok m w:=fun k c=>gb h2 c w
 have hb:(Instr.sliceBounds true len cap lv hv mv).run P w = .ok (0,h,m) w:=by
  rcases hm with⟨rfl,rfl⟩|⟨km,rfl⟩
  ·rcases hh with⟨rfl,rfl,_⟩|⟨kh,rfl⟩
   ·rcases hl with rfl|⟨kl,rfl⟩
    ·simp[Instr.sliceBounds]
    ·simp[Instr.sliceBounds,b0]
   ·rcases hl with rfl|⟨kl,rfl⟩
    ·simp[Instr.sliceBounds,bh]
    ·simp[Instr.sliceBounds,bh,b0]
  ·rcases hh with⟨_,_,e⟩|⟨kh,rfl⟩
   ·cases e
   ·rcases hl with rfl|⟨kl,rfl⟩
    ·simp[Instr.sliceBounds,bm,bh]
    ·simp[Instr.sliceBounds,bm,bh,b0]
 simp only[Instr.sliceAt,Instr.slice,dz,bz hu,dP,hb,cL hz,fY,Nat.sub_zero];rw[ha]
theorem Ck {e:TypeId} (h:(sz P e).isSome=true):∃s,sz P e=some s:=Option.isSome_iff_exists.1 h
theorem mg {T':TypeId} {i:Nat} {mm:Int} {cap:Nat} {a:Option Addr} {h m:Nat} (h0:0≤mm) (hcap:mm.toNat≤cap)
 (hr:(mm=0∧cap=0)∨∃b,ρ i=some b∧a=some ⟨b,0,none⟩∧∃c T'' f,w.heap[b]? = some (.cells c T'' f)∧cap*PG.cellsOf T'≤c.size) (h1:h≤m) (h2:m≤cap):
 Rep ρ E w (.osl i T' (h:Int)) (.slice a h m):=by
 simp only[Rep];refine⟨by omega,a,m,by simp,by simpa using h1,?_⟩
 rcases hr with⟨rfl,rfl⟩|⟨b,hb,ha,c,T'',f,hc,hs⟩
 ·exact .inl ⟨by omega,by omega⟩
 ·exact .inr ⟨b,hb,ha,c,T'',f,hc,Nat.le_trans (eX _ h2) hs⟩
theorem Ho {T T':TypeId} {i:Nat} {m:Int} {v:AV} {u:Value} {lo' hi':Option AV} {lv hv:Option Value} (ho:bf (ey (.osl i T' m) lo' hi')=true) (rl:RepO ρ E w lo' lv) (rh:RepO ρ E w hi' hv)
 (hs:ww P T T' i (.osl i T' m) lo' hi'=some v) (r:Rep ρ E w (.osl i T' m) u):OkP P ρ E w (Instr.sliceAt T u lv hv none) v:=by
 unfold ww at hs;split at hs
 case h_2=>cases hs
 case h_1 e hu=>
  cases hb:((sz P e).isSome&&Nat.beq (P.cellsOf e) (PG.cellsOf T'))with
  |false=>simp[hb]at hs
  |true=>
   simp only[hb,ap]at hs;simp only[bu]at hb;obtain⟨s,hz⟩:=Ck hb.1;obtain⟨l,hl,hs⟩:=aZ.1 hs;obtain⟨h,hh,hs⟩:=aZ.1 hs;cases hl0:Nat.beq l 0 with
   |false=>simp[hl0]at hs
   |true=>
    obtain rfl:=aV hl0;simp only[hl0,ap,aQ]at hs;subst hs;simp only[Rep]at r;obtain⟨h0,a,cap,rfl,hcap,hr⟩:=r;have hlv:=wY hl rl;cases hi' with
    |none=>
     simp only[RepO]at rh;subst rh;simp only[aQ]at hh;subst hh;obtain⟨n,rfl⟩:=wg h0;simp only[eY]at hcap ⊢;exact⟨_,iC hu hz hlv (.inl ⟨rfl,rfl,rfl⟩) (.inl ⟨rfl,rfl⟩) hcap (aP _) w,mg h0 (by simpa using hcap) hr hcap (aP _)⟩
    |some y=>
     simp only[RepO]at rh;obtain⟨yv,rfl,ry⟩:=rh;simp only at hh;obtain⟨k,rfl⟩:=fB hh ry;have o1:=bx ho (ae .leq 0 h) (by simp[ey,hh])
     have o2:=bx ho (ae .leq h m) (by simp[ey,hh])
     rw[bY]at o1 o2;simp only[eo,cn]at o1 o2;obtain⟨n,rfl⟩:=wg o1;exact⟨_,iC hu hz hlv (.inr ⟨k,rfl⟩) (.inl ⟨rfl,rfl⟩) (by omega) (aP _) w,mg h0 hcap hr (by omega) (aP _)⟩
theorem Hq {x:AV} {u:Value} (h:isSlice x=true) (r:Rep ρ E w x u):∃a l c,u = .slice a l c:=by
 unfold isSlice at h;split at h
 ·simp only[Rep]at r;exact⟨_,_,_,r⟩
 ·simp only[Rep]at r;obtain⟨_,_,_,rfl,_⟩:=r;exact⟨_,_,_,rfl⟩
 ·simp only[Rep]at r;obtain⟨_,_,rfl,_⟩:=r;exact⟨_,_,_,rfl⟩
 ·simp only[Rep]at r;obtain⟨_,_,rfl,_⟩:=r;exact⟨_,_,_,rfl⟩
 ·simp only[Rep]at r;obtain⟨_,_,_,_,rfl⟩:=r;exact⟨_,_,_,rfl⟩
 ·simp only[Rep]at r;obtain⟨_,_,_,rfl,_⟩:=r;exact⟨_,_,_,rfl⟩
 ·simp only[Rep]at r;obtain⟨_,rfl⟩:=r;exact⟨_,_,_,rfl⟩
 ·cases h
theorem PC {x:AV} {u:Value} (h:isZ x=true) (r:Rep ρ E w x u):∃k,u = .int k 0:=by
 unfold isZ at h;split at h
 ·simp only[Rep]at r;exact⟨_,r⟩
 ·cases h
theorem Su {T:TypeId} {x v m:AV} {u:Value} {lo' hi':Option AV} {lv hv mv:Option Value} (ho:bf (nf x hi' m)=true) (rl:RepO ρ E w lo' lv) (rh:RepO ρ E w hi' hv) (rm:RepO ρ E w (some m) mv)
 (hs:LG P T x lo' hi' m=some v) (r:Rep ρ E w x u):OkP P ρ E w (Instr.sliceAt T u lv hv mv) v:=by
 unfold LG at hs;split at hs
 case h_2=>cases hs
 case h_1 e hu=>
  cases hb:(sz P e).isSome with
  |false=>simp[hb]at hs
  |true=>
   simp only[hb,ap]at hs;obtain⟨s,hz⟩:=Ck hb;obtain⟨l,hl,hs⟩:=aZ.1 hs;cases hl0:Nat.beq l 0 with
   |false=>simp[hl0]at hs
   |true=>
    obtain rfl:=aV hl0;simp only[hl0,ap]at hs;have hlv:=wY hl rl;simp only[RepO]at rm;obtain⟨mu,rfl,rm⟩:=rm;obtain⟨h,rfl,hs3⟩:=aZ.1 hs;clear hs;simp only[RepO]at rh;obtain⟨hu',rfl,rh⟩:=rh;cases hzz:(isZ h&&(isZ m&&isSlice x))with
    |true=>
     simp only[hzz,ap,aQ]at hs3;subst hs3;simp only[bu]at hzz;obtain⟨k,rfl⟩:=PC hzz.1 rh;obtain⟨k',rfl⟩:=PC hzz.2.1 rm;obtain⟨a,l,c,rfl⟩:=Hq hzz.2.2 r;exact⟨_,iC (h:=0) (m:=0) hu hz hlv (.inr ⟨k,rfl⟩) (.inr ⟨k',rfl⟩) (aP _) (lR _) w,by simp only[Rep];exact⟨a,rfl⟩⟩
    |false=>
     simp only[hzz,aJ]at hs3;cases x with
     |osl i T' mm=>
      simp only[nf,hzz,aJ]at ho;simp only[Rep]at r;obtain⟨h0,a,cap,rfl,hcap,hr⟩:=r;obtain⟨hn,hhn,hs4⟩:=aZ.1 hs3;obtain⟨mn,hmn,hs5⟩:=aZ.1 hs4;rw[hhn,hmn]at ho;cases hc:Nat.beq (P.cellsOf e) (PG.cellsOf T')with
      |false=>simp[hc]at hs5
      |true=>
       simp only[hc,ap,aQ]at hs5;subst hs5;obtain⟨k,rfl⟩:=fB hhn rh;obtain⟨k',rfl⟩:=fB hmn rm;have o1:=bx ho (ae .eql hn mm) (by simp)
       have o2:=bx ho (ae .eql mn mm) (by simp)
       rw[bY]at o1 o2;simp only[eo,fZ]at o1 o2;subst o1 o2;obtain⟨n,rfl⟩:=wg h0;simp only[eY]at hcap ⊢;exact⟨_,iC hu hz hlv (.inr ⟨k,rfl⟩) (.inr ⟨k',rfl⟩) (aP _) hcap w,mg h0 (by simpa using hcap) hr (aP _) hcap⟩
     |sl i z off len=>
      obtain⟨hn,hhn,hs4⟩:=aZ.1 hs3;obtain⟨mn,hmn,hs5⟩:=aZ.1 hs4;split at hs5
      ·rename_i hle;cases hs5;obtain⟨k,rfl⟩:=ij hhn rh;obtain⟨k',rfl⟩:=ij hmn rm;simp only[Rep]at r;obtain⟨b,cap,hb,rfl,hcap,c,T',f,hc,hsz⟩:=r;refine⟨_,iC hu hz hlv (.inr ⟨k,rfl⟩) (.inr ⟨k',rfl⟩) hle.1 (by omega) w,?_⟩
       simp only[Rep];have:mn*z≤cap*z:=eX z (by omega)
       exact⟨b,mn,hb,rfl,hle.1,c,T',f,hc,by omega⟩
      ·cases hs5
     |_=>cases hs3
noncomputable def slObl (x:AV) (lo hi mx:Option AV):List Bool:=match mx with|none=>ey x lo hi|some m=>nf x hi m
theorem ok_slice (inv:Inv lo w0 ρ E H w) {T:TypeId} {x v:AV} {u:Value} {lo' hi' mx:Option AV} {lv hv mv:Option Value}
 (rl:RepO ρ E w lo' lv) (rh:RepO ρ E w hi' hv) (rm:RepO ρ E w mx mv) (ho:bf (slObl x lo' hi' mx)=true) (hs:kU P H T x lo' hi' mx=some v) (r:Rep ρ E w x u):OkP P ρ E w (Instr.sliceAt T u lv hv mv) v:=by
 cases mx with
 |some m=>exact Su ho rl rh rm hs r
 |none=>
  simp only[RepO]at rm;subst rm
  replace hs:kU P H T x lo' hi' none=some v:=hs
  replace ho:bf (ey x lo' hi')=true:=ho
  simp only[kU]at hs;split at hs
  ·exact Ho ho rl rh hs r
  ·exact Ss ho rl rh hs r
  ·rename_i xs;cases hl:g6 lo' with
   |none=>simp[hl]at hs
   |some l=>
    cases hh:gM xs.length hi' with
    |none=>simp[hl,hh]at hs
    |some h=>simp only[hl,hh,bo]at hs;exact So hl hh rl rh hs r
  ·rename_i i z off len;cases hl:g6 lo' with
   |none=>simp[hl]at hs
   |some l=>
    cases hh:gM len hi' with
    |none=>simp[hl,hh]at hs
    |some h=>simp only[hl,hh,bo]at hs;exact Sq hl hh rl rh hs r
  ·cases hl:g6 lo' with
   |none=>simp[hl]at hs
   |some l=>simp only[hl,bo]at hs;exact Sr inv hl rl rh hs r
  ·exact Cj ho rl rh hs r
  ·rename_i v0;split at hs
   ·rename_i a b ha hb;rw[wX ha rl,wX hb rh];simp only[Rep]at r;subst r;exact LQ hs
   ·rename_i hab;cases v0<;>simp only[Pq]at hs<;>try (cases hs;done)
    rename_i s;simp only[Rep]at r;subst r;refine Cj (s:=s) ?_ rl rh hs (by simp only[Rep])
    simp only[ey]at ho;exact ho
  ·cases hs
theorem RepM.length:∀{xs:List (Value×AV)} {es:List MapEntry},RepM ρ E w xs es->xs.length=es.length
 | [],es,h=>by simp only[RepM]at h;simp[h]
 | (k,v)::xs,es,h=>by
   simp only[RepM]at h;obtain⟨e,es',rfl,_,_,h2⟩:=h;simp[RepM.length h2]
theorem Inv.mapAt (inv:Inv lo w0 ρ E H w) {i b:Nat} {es:List (Value×AV)} (h:getM H i=some es) (hb:ρ i=some b):
 ∃arr clk,w.heap[b]? = some (.map arr clk)∧RepM ρ E w es arr.toList∧He arr clk:=inv.blk i (.map es) b (pc h) hb
theorem run_getObj_map {b:Nat} {arr:Array MapEntry} {clk:Nat} {w:World} (hm:w.heap[b]? = some (.map arr clk)):(getObj b).run P w = .ok (.map arr clk) w:=by
 simp[getObj,Sem.run,hm]
theorem ok_lenP {T ty:TypeId} {x v:AV} {u:Value} (h:lenP P T x=some v) (r:Rep ρ E w x u):OkP P ρ E w (Builtin.len_ #[T] ty #[u]) v:=by
 unfold lenP at h;split at h
 case h_1 hu=>cases h;simp only[Rep]at r;obtain⟨_,_,_,rfl,_⟩:=r;exact dV (by simp[Builtin.len_,bz hu,goInt])
 case h_2 hu=>cases h;simp only[Rep]at r;obtain⟨_,_,rfl,_⟩:=r;exact dV (by simp[Builtin.len_,bz hu,goInt])
 case h_3 hu=>cases h;simp only[Rep]at r;subst r;exact dV (by simp[Builtin.len_,bz hu,goInt])
 case h_4 hu=>cases h;simp only[Rep]at r;obtain⟨_,rfl⟩:=r;exact dV (by simp[Builtin.len_,bz hu,goInt])
 case h_5 hu=>cases h;simp only[Rep]at r;subst r;exact dV (by simp[Builtin.len_,bz hu,goInt])
 case h_6 hu=>cases h;simp only[Rep]at r;obtain⟨_,_,rfl,_⟩:=r;exact⟨.int .i64 _,by simp[Builtin.len_,bz hu,goInt];rfl,by simp only[Rep,eN,D.len]⟩
 case h_7 hu=>cases h;simp only[Rep]at r;obtain⟨⟨_,_,rfl,_⟩,_⟩:=r;exact⟨.int .i64 _,by simp[Builtin.len_,bz hu,goInt];rfl,by simp only[Rep,eN,D.len]⟩
 case h_8 m hu=>
  cases h;simp only[Rep]at r;obtain⟨h0,_,_,rfl,_⟩:=r;exact⟨.int .i64 m,by simp[Builtin.len_,bz hu,goInt];omega,by simp only[Rep]⟩
 case h_9 hu=>cases h;simp only[Rep]at r;subst r;exact⟨.int .i64 _,by simp[Builtin.len_,bz hu,goInt];rfl,by simp only[Rep,o8]⟩
 case h_10 es hu=>
  cases h;simp only[Rep]at r;obtain⟨b,arr,clk,rfl,_,hm,hr,_⟩:=r;have hl:arr.size=es.length:=by rw[<- Array.length_toList,hr.length]
  exact dV (by simp[Builtin.len_,bz hu,goInt,run_getObj_map hm,hl])
 case h_11 hu=>cases h;exact dV (by simp[Builtin.len_,bz hu,goInt])
 case h_12=>cases h
theorem ok_cap {T ty:TypeId} {x v:AV} {u:Value} (h:capA P T x=some v) (r:Rep ρ E w x u):OkP P ρ E w (Builtin.cap_ #[T] ty #[u]) v:=by
 unfold capA at h;split at h
 ·rename_i e hu;cases h;simp only[Rep]at r;subst r;exact⟨.int .i64 0,by simp[Builtin.cap_,bz hu,goInt],by simp only[Rep]⟩
 ·rename_i e hu;cases h;simp only[Rep]at r;obtain⟨a,rfl⟩:=r;exact⟨.int .i64 0,by simp[Builtin.cap_,bz hu,goInt],by simp only[Rep]⟩
 ·cases h
theorem ok_len (inv:Inv lo w0 ρ E H w) {T ty:TypeId} {x v:AV} {u:Value} (h:wB P T H x=some v) (r:Rep ρ E w x u):OkP P ρ E w (Builtin.len_ #[T] ty #[u]) v:=by
 unfold wB at h;split at h
 ·rename_i i;split at h
  ·rename_i es hg;unfold lenM at h;split at h
   ·rename_i hu;cases h;simp only[Rep]at r;obtain⟨b,hb,rfl⟩:=r;obtain⟨arr,clk,hm,hr,_⟩:=inv.blk i _ b hg hb;have hl:arr.size=es.length:=by rw[<- Array.length_toList,hr.length]
    exact dV (by simp[Builtin.len_,bz hu,goInt,run_getObj_map hm,hl])
   ·cases h
  ·rename_i kT vT d hg;unfold lenU at h;split at h
   ·rename_i hu;cases h;simp only[Rep]at r;obtain⟨b,hb,rfl⟩:=r;obtain⟨arr,clk,hm,hr,_⟩:=inv.blk i _ b hg hb;have hl:arr.size=d.toList.length:=by rw[<- Array.length_toList, <- hr.length];simp[g7]
    exact⟨.int .i64 arr.size,by simp[Builtin.len_,bz hu,goInt,run_getObj_map hm],by simp only[Rep];rw[eN,hl];rfl⟩
   ·cases h
  ·cases h
 ·exact ok_lenP h r
end
end Go.AM
