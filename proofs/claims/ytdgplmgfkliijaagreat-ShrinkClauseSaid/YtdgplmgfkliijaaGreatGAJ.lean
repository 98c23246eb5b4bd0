/- Parts of a proof. -/
import Derived.Test.YtdgplmgfkliijaaGreatGAI
set_option linter.unusedVariables false
set_option linter.unusedSimpArgs false
namespace Go.Proofs.YtdgplmgfkliijaaGreat
open Go.RowKit
def pe (a:Nat→Bool) (x:Int):Prop:=(a x.natAbs=true↔0<x)
theorem pe.neg {a:Nat→Bool} {x:Int} (h:x≠0):pe a (-x)↔¬pe a x:=by
 unfold pe
 have h2:(0< -x)↔¬0<x:=by omega
 rw [Int.natAbs_neg,h2]
 cases a x.natAbs<;>by_cases hp:0<x<;>simp [hp]
def kV (a:Nat→Bool) (l:List Int):Prop:=∃y∈l,pe a y
namespace Sv
def Rsn (S:Sv):Prop:=∀A e B,S.R=A++e::B→e.r≠0→∃n:Nat,e.r=(n:Int)+1∧∃ls,(S.rc n).lits=e.x::ls∧∀y∈ls,∃e'∈A,e'.x= -y
def Dec (S:Sv):Prop:=∀A e B,S.R=A++e::B→e.r=0→e.l=0∨∀e'∈A,e'.l<e.l
def Hd (S:Sv):Prop:=∀e∈S.R.drop S.head,e.l=S.T.levels.length
def GI (S:Sv) (n:Nat):Prop:=(∀y∈(S.rc n).lits,∃e∈S.R,e.x= -y)∧∃y∈(S.rc n).lits,∃e∈S.R,e.x= -y∧e.l=S.T.levels.length
def Good (S:Sv) (a:Nat→Bool):Prop:=(∀n:Nat,(S.rc n).lits≠[]→kV a (S.rc n).lits)∧∀e∈S.R,e.l=0→pe a e.x
def F0 (S:Sv) (x:Int):Prop:=∃e∈S.R,e.l=0∧e.x= -x
def DQ (S:Sv) (E:(Int→Prop)→Prop):Prop:=(∀(A B:Int→Prop) (x:Int),x≠0→A (-x)→B x→E A→E B→E fun y=>(A y∧y≠ -x)∨(B y∧y≠x))∧∀n,(S.rc n).lits≠[]→E fun x=>x∈(S.rc n).lits
def iz (d:Int) (seen:List Int) (Q:List St):Nat:=Q.countP fun e=>decide (e.l=d)&&decide (tv e.x∈seen)
theorem Dj {d:Int} {seen:List Int} {Q:List St} {v:Int} (h:∀e∈Q,tv e.x=v→e.l≠d):iz d (v::seen) Q=iz d seen Q:=by
 unfold iz
 apply List.countP_congr
 intro e he
 by_cases hv:tv e.x=v
 ·simp [h e he hv]
 ·simp [hv]
theorem Ij {d:Int} {seen:List Int} {v:Int}:∀{Q:List St},(Q.map fun e:St=>tv e.x).Nodup→v∉seen→(∃e∈Q,tv e.x=v∧e.l=d)→iz d (v::seen) Q=iz d seen Q+1
 |[],_,_,h=>by obtain ⟨e,he,_⟩:=h;cases he
 |e::Q,hn,hv,h=>by
  rw [cM,eB] at hn
  by_cases he:tv e.x=v
  ·have hl:e.l=d:=by
    obtain ⟨e',dZ,h1,h2⟩:=h
    rcases av.1 dZ with rfl |dZ
    ·exact h2
    ·exact absurd (by rw [he,←h1];exact ia (f:=fun e:St=>tv e.x) dZ) hn.1
   have h0:iz d (v::seen) Q=iz d seen Q:=Dj (fun e' dZ h1=>absurd (by rw [he,←h1];exact ia (f:=fun e:St=>tv e.x) dZ) hn.1)
   unfold iz at *
   rw [List.countP_cons,List.countP_cons,h0]
   simp [hl,he,hv]
  ·have ih:=Ij (d:=d) hn.2 hv (by
    obtain ⟨e',dZ,h1,h2⟩:=h
    rcases av.1 dZ with rfl |dZ
    ·exact absurd h1 he
    ·exact ⟨e',dZ,h1,h2⟩)
   unfold iz at *
   rw [List.countP_cons,List.countP_cons,ih]
   simp only [av,he,false_or]
   omega
theorem Ii {d:Int} {seen:List Int} {Q:List St} (h:0<iz d seen Q):∃e∈Q,e.l=d∧tv e.x∈seen:=by
 unfold iz at h
 rw [List.countP_pos_iff] at h
 obtain ⟨e,he,h1⟩:=h
 simp only [aD,decide_eq_true_eq] at h1
 exact ⟨e,he,h1⟩
structure LI (S:Sv) (d:Int) (G:Gr) (Q D:List St):Prop where
 split:S.R=Q.reverse++D
 T:G.S.T=S.T
 lits:∀m,(G.S.rc m).lits=(S.rc m).lits
 fF:G.fF=(iz d G.seen Q:Nat)
 iY:∀y∈G.bn.tail,tv y∈G.seen∧∃e∈S.R,e.x= -y∧1≤e.l∧e.l<d
 low:∀e∈S.R,tv e.x∈G.seen→e.l<d→ -e.x∈G.bn.tail
 nd:(G.bn.tail.map tv).Nodup
 l0:0<G.bn.length
 pos:∀e∈S.R,tv e.x∈G.seen→1≤e.l
theorem jm {S:Sv} {m:Nat} (ok:S.Ok m) {e e':St} (h:e∈S.R) (h':e'∈S.R) (ht:tv e.x=tv e'.x):e=e':=by
 have h1:=gS ok.rep.nd h
 have h2:=gS ok.rep.nd h'
 rw [ht,h2] at h1
 cases h1
 rfl
theorem jb {S:Sv} {m:Nat} (ok:S.Ok m) {e:St} (h:e∈S.R) {y:Int} (hy:e.x= -y):tv y=tv e.x∧y= -e.x:=by
 have hb:=fm ok h
 have hv:=ok.vl
 have :y= -e.x:=by omega
 exact ⟨by rw [this];exact zC _ hb.1 (by omega),this⟩
theorem LI.meet {S:Sv} {m:Nat} (ok:S.Ok m) {G:Gr} {Q D:List St} (h:LI S S.T.levels.length G Q D) {y:Int} {e:St} (he:e∈Q) (hy:e.x= -y):
  LI S S.T.levels.length (meet G y) Q D∧(∀v∈G.seen,v∈(meet G y).seen)∧(e.l≤0∨tv y∈(meet G y).seen)∧(∀z∈G.bn.tail,z∈(meet G y).bn.tail):=by
 have hR:e∈S.R:=by rw [h.split];exact ak _ (cP.2 he)
 obtain ⟨ht,Tz⟩:=jb ok hR hy
 have hl:=(kF ok hR).1
 have TK:=fm ok hR
 by_cases h1:tv y∈G.seen∨G.S.T.da (tv y)≤0
 ·rw [iK h1]
  refine ⟨h,fun v hv=>hv,?_,fun z hz=>hz⟩
  rcases h1 with h1 |h1
  ·exact .inr h1
  ·left
   rw [h.T,ht,hl] at h1
   exact h1
 ·have Hr:tv y∉G.seen:=fun e=>h1 (.inl e)
  have hp:1≤e.l:=by
   have :¬G.S.T.da (tv y)≤0:=fun e=>h1 (.inr e)
   rw [h.T,ht,hl] at this
   omega
  have rg:∀e'∈S.R,tv e'.x∈tv y::G.seen→1≤e'.l:=fun e' dZ hs=>by
   rcases av.1 hs with hs |hs
   ·rw [ht] at hs
    rw [jm ok dZ hR hs]
    exact hp
   ·exact h.pos e' dZ hs
  have ae7:(Q.map fun e:St=>tv e.x).Nodup:=by
   have h5:=ok.rep.nd
   rw [h.split,bJ,List.nodup_append,List.map_reverse] at h5
   have h6:=h5.1
   unfold List.Nodup at h6⊢
   rw [List.pairwise_reverse] at h6
   exact h6.imp (fun h e=>h e.symm)
  by_cases h2:G.S.T.da (tv y)=G.S.T.levels.length
  ·rw [fG h1 h2]
   have zb:e.l=S.T.levels.length:=by rw [h.T,ht,hl] at h2;exact h2
   refine ⟨⟨h.split,h.T,h.lits,?_,fun z hz=>⟨aP _ (h.iY z hz).1,(h.iY z hz).2⟩,fun e' dZ hs bM=> ?_,h.nd,h.l0,rg⟩,fun v hv=>aP _ hv, .inr aY,fun z hz=>hz⟩
   ·show G.fF+1=_
    rw [Ij ae7 Hr ⟨e,he,ht.symm,zb⟩,h.fF]
    rfl
   ·rcases av.1 hs with hs |hs
    ·rw [ht] at hs
     rw [jm ok dZ hR hs] at bM
     omega
    ·exact h.low e' dZ hs bM
  ·rw [gR h1 h2]
   have zb:e.l≠S.T.levels.length:=by rw [h.T,ht,hl] at h2;exact h2
   have Ba:(G.bn++[y]).tail=G.bn.tail++[y]:=qad h.l0
   refine ⟨⟨h.split,h.T,h.lits,?_,fun z hz=> ?_,fun e' dZ hs bM=> ?_,?_,by simp,rg⟩,fun v hv=>aP _ hv, .inr aY,fun z hz=> ?_⟩
   ·show G.fF=_
    rw [Dj,h.fF]
    intro e' dZ hs
    rw [ht] at hs
    rw [jm ok (by rw [h.split];exact ak _ (cP.2 dZ)) hR hs]
    exact zb
   ·have hz:z∈(G.bn++[y]).tail:=hz
    rw [Ba] at hz
    rcases ag.1 hz with hz |hz
    ·exact ⟨aP _ (h.iY z hz).1,(h.iY z hz).2⟩
    ·rw [ah.1 hz]
     exact ⟨aY,e,hR,hy,hp,by omega⟩
   ·show -e'.x∈(G.bn++[y]).tail
    rw [Ba]
    rcases av.1 hs with hs |hs
    ·rw [ht] at hs
     rw [jm ok dZ hR hs,←Tz]
     simp
    ·exact ak _ (h.low e' dZ hs bM)
   ·show ((G.bn++[y]).tail.map tv).Nodup
    rw [Ba,bJ,List.nodup_append]
    refine ⟨h.nd,by simp,fun a ha b hb=> ?_⟩
    rw [az] at ha
    obtain ⟨z,hz,rfl⟩:=ha
    simp only [cM,dU,ah] at hb
    rw [hb]
    intro e9
    exact Hr (by rw [←e9];exact (h.iY z hz).1)
   ·show z∈(G.bn++[y]).tail
    rw [Ba]
    exact ak _ hz
theorem LI.meets {S:Sv} {m:Nat} (ok:S.Ok m) {Q D:List St} (skip:Int):∀(ls:List Int) (G:Gr),LI S S.T.levels.length G Q D→(∀y∈ls,y≠skip→∃e∈Q,e.x= -y)→
  LI S S.T.levels.length (meets skip ls G) Q D∧(∀v∈G.seen,v∈(meets skip ls G).seen)∧(∀y∈ls,y≠skip→∀e∈Q,e.x= -y→e.l≤0∨tv y∈(meets skip ls G).seen)∧(∀z∈G.bn.tail,z∈(meets skip ls G).bn.tail)
 |[],G,h,_=>⟨h,fun v hv=>hv,(fun y hy=>by cases hy),fun z hz=>hz⟩
 |y::r,G,h,hl=>by
  rw [Sv.meets]
  by_cases hs:y≠skip
  ·rw [if_pos hs]
   obtain ⟨e,he,hy⟩:=hl y aY hs
   obtain ⟨h1,h2,h3,h4⟩:=h.meet ok he hy
   obtain ⟨k1,k2,k3,k4⟩:=LI.meets ok skip r _ h1 (fun z hz=>hl z (aP _ hz))
   refine ⟨k1,fun v hv=>k2 v (h2 v hv),fun z hz AZ e' dZ hz'=> ?_,fun z hz=>k4 z (h4 z hz)⟩
   rcases av.1 hz with rfl |hz
   ·have :e'=e:=by
     have h5:=jb ok (by rw [h.split];exact ak _ (cP.2 he)) hy
     have h6:=jb ok (by rw [h.split];exact ak _ (cP.2 dZ)) hz'
     exact jm ok (by rw [h.split];exact ak _ (cP.2 dZ)) (by rw [h.split];exact ak _ (cP.2 he)) (h6.1.symm.trans h5.1)
    rw [this]
    exact h3.imp id (fun h5=>k2 _ h5)
   ·exact k3 z hz AZ e' dZ hz'
  ·rw [if_neg hs]
   obtain ⟨k1,k2,k3,k4⟩:=LI.meets ok skip r _ h (fun z hz=>hl z (aP _ hz))
   refine ⟨k1,k2,fun z hz AZ=> ?_,k4⟩
   rcases av.1 hz with rfl |hz
   ·exact absurd AZ hs
   ·exact k3 z hz AZ
theorem so (skip:Int):∀(ls:List Int) (G:Gr),0<G.bn.length→(∀v∈(Sv.meets skip ls G).seen,v∈G.seen∨∃y∈ls,y≠skip∧tv y=v)∧∀z∈(Sv.meets skip ls G).bn.tail,z∈G.bn.tail∨(z∈ls∧z≠skip)
 |[],G,_=>⟨fun v hv=> .inl hv,fun z hz=> .inl hz⟩
 |y::r,G,h0=>by
  rw [Sv.meets]
  by_cases hs:y≠skip
  ·rw [if_pos hs]
   have hm:0<(Sv.meet G y).bn.length∧(∀v∈(Sv.meet G y).seen,v∈G.seen∨tv y=v)∧∀z∈(Sv.meet G y).bn.tail,z∈G.bn.tail∨z=y:=by
    by_cases h1:tv y∈G.seen∨G.S.T.da (tv y)≤0
    ·rw [iK h1]
     exact ⟨h0,fun v hv=> .inl hv,fun z hz=> .inl hz⟩
    ·by_cases h2:G.S.T.da (tv y)=G.S.T.levels.length
     ·rw [fG h1 h2]
      exact ⟨h0,fun v hv=>(av.1 hv).symm.imp id (fun h=>h.symm),fun z hz=> .inl hz⟩
     ·rw [gR h1 h2]
      refine ⟨by simp,fun v hv=>(av.1 hv).symm.imp id (fun h=>h.symm),fun z hz=> ?_⟩
      have hz:z∈(G.bn++[y]).tail:=hz
      rw [qad h0] at hz
      exact (ag.1 hz).imp id (fun h=>ah.1 h)
   obtain ⟨k1,k2⟩:=so skip r (Sv.meet G y) hm.1
   refine ⟨fun v hv=> ?_,fun z hz=> ?_⟩
   ·rcases k1 v hv with h |⟨w,h1,h2,h3⟩
    ·rcases hm.2.1 v h with h |h
     ·exact .inl h
     ·exact .inr ⟨y,aY,hs,h⟩
    ·exact .inr ⟨w,aP _ h1,h2,h3⟩
   ·rcases k2 z hz with h |⟨h1,h2⟩
    ·rcases hm.2.2 z h with h |h
     ·exact .inl h
     ·exact .inr ⟨by rw [h];exact aY,by rw [h];exact hs⟩
    ·exact .inr ⟨aP _ h1,h2⟩
  ·rw [if_neg hs]
   obtain ⟨k1,k2⟩:=so skip r G h0
   exact ⟨fun v hv=>(k1 v hv).imp id fun ⟨w,h1,h2,h3⟩=>⟨w,aP _ h1,h2,h3⟩,fun z hz=>(k2 z hz).imp id fun ⟨h1,h2⟩=>⟨aP _ h1,h2⟩⟩
structure Cur (S:Sv) (E:(Int→Prop)→Prop) (G:Gr) (Q:List St) (X:Int→Prop) (A:Int→Prop):Prop where
 e:E A
 sub:∀x,A x→x∈G.bn.tail∨(∃e∈Q,e.l=S.T.levels.length∧tv e.x∈G.seen∧x= -e.x)∨X x∨S.F0 x
 iY:∀y∈G.bn.tail,A y
 fF:∀e∈Q,e.l=S.T.levels.length→tv e.x∈G.seen→A (-e.x)
 x:∀y,X y→A y
structure aik (S:Sv) (GE:Gr) (xe:Int):Prop where
 T:GE.S.T=S.T
 lits:∀m,(GE.S.rc m).lits=(S.rc m).lits
 iY:∀y∈GE.bn.tail,∃e∈S.R,e.x= -y∧1≤e.l∧e.l<S.T.levels.length
 nd:(GE.bn.tail.map tv).Nodup
 l0:0<GE.bn.length
 top:∃e∈S.R,e.x=xe∧e.l=S.T.levels.length
 ext:∀E,S.DQ E→∃A,E A∧(∀y∈GE.bn.tail,A y)∧A (-xe)∧∀y,A y→y∈GE.bn.tail∨y= -xe∨S.F0 y
theorem sY {S:Sv} {m:Nat} (ok:S.Ok m) (hr:S.Rsn) (hd:S.Dec):∀(f:Nat) (G:Gr) (n:Nat) (skip:Int) (Q D:List St),Q.length<f→LI S S.T.levels.length G Q D→
  (∀y∈(S.rc n).lits,y≠skip→∃e∈Q,e.x= -y)→(0<iz S.T.levels.length G.seen Q∨(0<S.T.levels.length∧∃y∈(S.rc n).lits,y≠skip∧∃e∈Q,e.x= -y∧e.l=S.T.levels.length))→
  (∀E,S.DQ E→∃A,S.Cur E G Q (fun y=>y∈(S.rc n).lits∧y≠skip) A)→
  ∃GE xe,fg f G n skip (Q.map (·.x))=some (GE,xe)∧aik S GE xe
 |0,_,_,_,_,_,h,_,_,_,_=>absurd h (aI _)
 |f+1,G,n,skip,Q,D,hf,h,hc,hp,hs=>by
  rw [kp]
  have e1:dH G (n:Int) skip=meets skip (S.rc n).lits { G with S:=G.S.gf n }:=by
   unfold dH
   rw [if_pos (by omega),Int.toNat_natCast,h.lits]
  have h0:LI S S.T.levels.length { G with S:=G.S.gf n } Q D:=⟨h.split,h.T,fun k=>(qQ G.S n k).1.trans (h.lits k),h.fF,h.iY,h.low,h.nd,h.l0,h.pos⟩
  obtain ⟨g1,g2,g3,g4⟩:=h0.meets ok skip (S.rc n).lits _ hc
  rw [e1]
  obtain ⟨g5,g6⟩:=so skip (S.rc n).lits { G with S:=G.S.gf n } h.l0
  change ∀v∈_,v∈G.seen∨_ at g5
  change ∀z∈_,z∈G.bn.tail∨_ at g6
  generalize meets skip (S.rc n).lits { G with S:=G.S.gf n }=G1 at g1 g2 g3 g4 g5 g6
  have Hs:∀(A:List St),iz S.T.levels.length G.seen A≤iz S.T.levels.length G1.seen A:=fun A=>by
   unfold iz
   apply List.countP_mono_left
   intro e _ h5
   simp only [aD,decide_eq_true_eq] at h5⊢
   exact ⟨h5.1,g2 _ h5.2⟩
  have rg:0<iz S.T.levels.length G1.seen Q:=by
   rcases hp with hp |⟨hd0,y,hy,Lu,e,he,qt,zb⟩
   ·have :=Hs Q;omega
   ·unfold iz
    rw [List.countP_pos_iff]
    refine ⟨e,he,?_⟩
    simp only [aD,decide_eq_true_eq]
    refine ⟨zb,?_⟩
    have h5:=g3 y hy Lu e he qt
    rw [(jb ok (by rw [h.split];exact ak _ (cP.2 he)) qt).1] at h5
    rcases h5 with h5 |h5
    ·omega
    ·exact h5
  have aaY:∀E,S.DQ E→∃A,S.Cur E G1 Q (fun _=>False) A:=fun E hE=>by
   obtain ⟨A,a1,a2,a3,a4,a5⟩:=hs E hE
   have T4:∀e∈Q,e∈S.R:=fun e he=>by rw [h.split];exact ak _ (cP.2 he)
   refine ⟨A,a1,fun x hx=> ?_,fun z hz=> ?_,fun e he zb P0=> ?_,fun y hy=>hy.elim⟩
   ·rcases a2 x hx with h5 |⟨e,he,zb,P0,np⟩ |⟨h5,h6⟩ |h5
    ·exact .inl (g4 x h5)
    ·exact .inr (.inl ⟨e,he,zb,g2 _ P0,np⟩)
    ·obtain ⟨e,he,qt⟩:=hc x h5 h6
     obtain ⟨ht,Tz⟩:=jb ok (T4 e he) qt
     rcases g3 x h5 h6 e he qt with h7 |h7
     ·have :=(fm ok (T4 e he)).2.2.1
      exact .inr (.inr (.inr ⟨e,T4 e he,by omega,qt⟩))
     ·rw [ht] at h7
      by_cases zb:e.l<S.T.levels.length
      ·have :=g1.low e (T4 e he) h7 zb
       rw [←Tz] at this
       exact .inl this
      ·have :=(fm ok (T4 e he)).2.2.2
       exact .inr (.inl ⟨e,he,by omega,h7,Tz⟩)
    ·exact .inr (.inr (.inr h5))
   ·rcases g6 z hz with h5 |h5
    ·exact a3 z h5
    ·exact a5 z h5
   ·rcases g5 _ P0 with h5 |⟨y,hy,Lu,hyt⟩
    ·exact a4 e he zb h5
    ·obtain ⟨e',dZ,qt⟩:=hc y hy Lu
     obtain ⟨ht,Tz⟩:=jb ok (T4 e' dZ) qt
     rw [jm ok (T4 e he) (T4 e' dZ) (by rw [←ht,hyt]),←Tz]
     exact a5 y ⟨hy,Lu⟩
  --UK last one Yy nE seen
  obtain ⟨em,TX,aaN,aaM⟩:=Ii rg
  have hex:∃P e0 Q',Q=P++e0::Q'∧(∀e∈P,tv e.x∉G1.seen)∧tv e0.x∈G1.seen:=by
   clear Hs rg aaY hs hp hc h0 g1 g3 g4 g5 g6 e1 hf h aaN
   induction Q with
   |nil=>cases TX
   |cons e Q ih=>
    by_cases he:tv e.x∈G1.seen
    ·exact ⟨[],e,Q,rfl,(fun _ h=>by cases h),he⟩
    ·rcases av.1 TX with rfl |TX
     ·exact absurd aaM he
     ·obtain ⟨P,e0,Q',h1,h2,h3⟩:=ih TX
      exact ⟨e::P,e0,Q',by rw [h1];rfl,fun e' dZ=>by
       rcases av.1 dZ with rfl |dZ
       ·exact he
       ·exact h2 e' dZ,h3⟩
  obtain ⟨P,e0,Q',hQ,hP,pq⟩:=hex
  have hdw:(Q.map (·.x)).dropWhile (fun x=>decide (tv x∉G1.seen))=e0.x::Q'.map (·.x):=by
   rw [hQ,bJ,cM]
   clear hQ
   induction P with
   |nil=>rw [dU,List.nil_append,List.dropWhile_cons,if_neg (by simpa using pq)]
   |cons e P ih=>
    rw [cM,List.cons_append,List.dropWhile_cons,if_pos (by simpa using hP e aY)]
    exact ih (fun e' dZ=>hP e' (aP _ dZ))
  have Wj:S.R=Q'.reverse++e0::(P.reverse++D):=by
   rw [h.split,hQ]
   simp
  have Fq:e0∈S.R:=by rw [Wj];simp
  have Hl:=ok.rep.sorted
  rw [Wj] at Hl
  have afk:∀e∈Q',e.l≤e0.l:=fun e he=>(List.pairwise_append.1 Hl).2.2 e (cP.2 he) e0 aY
  have Wc:e0.l=S.T.levels.length:=by
   have h5:=(fm ok Fq).2.2.2
   rw [hQ] at TX
   rcases ag.1 TX with h6 |h6
   ·exact absurd aaM (hP em h6)
   ·rcases av.1 h6 with rfl |h6
    ·exact aaN
    ·have :=afk em h6
     omega
  have afF:iz S.T.levels.length G1.seen Q=iz S.T.levels.length G1.seen Q'+1:=by
   have hP0:iz S.T.levels.length G1.seen P=0:=by
    unfold iz
    rw [List.countP_eq_zero]
    intro e he
    simp [hP e he]
   rw [hQ]
   unfold iz at *
   rw [List.countP_append,hP0,List.countP_cons]
   simp [Wc,pq]
  have Vz:G1.fF-1=(iz S.T.levels.length G1.seen Q':Nat):=by rw [g1.fF,afF];omega
  have TZ:∀E,S.DQ E→∃A,E A∧(∀x,A x→x∈G1.bn.tail∨x= -e0.x∨(∃e∈Q',e.l=S.T.levels.length∧tv e.x∈G1.seen∧x= -e.x)∨S.F0 x)∧(∀y∈G1.bn.tail,A y)∧A (-e0.x)∧∀e∈Q',e.l=S.T.levels.length→tv e.x∈G1.seen→A (-e.x):=fun E hE=>by
   obtain ⟨A,a1,a2,a3,a4,_⟩:=aaY E hE
   refine ⟨A,a1,fun x hx=> ?_,a3,a4 e0 (by rw [hQ];simp) Wc pq,fun e he=>a4 e (by rw [hQ];simp [he])⟩
   rcases a2 x hx with h5 |⟨e,he,zb,P0,np⟩ |h5 |h5
   ·exact .inl h5
   ·rw [hQ] at he
    rcases ag.1 he with h6 |h6
    ·exact absurd P0 (hP e h6)
    ·rcases av.1 h6 with rfl |h6
     ·exact .inr (.inl np)
     ·exact .inr (.inr (.inl ⟨e,h6,zb,P0,np⟩))
   ·exact h5.elim
   ·exact .inr (.inr (.inr h5))
  by_cases hz:iz S.T.levels.length G1.seen Q'=0
  ·refine ⟨{ G1 with fF:=G1.fF-1 },e0.x,?_,⟨g1.T,g1.lits,fun y hy=>(g1.iY y hy).2,g1.nd,g1.l0,⟨e0,Fq,rfl,Wc⟩,fun E hE=> ?_⟩⟩
   ·unfold dR
    rw [hdw]
    simp only
    rw [if_pos (by rw [Vz,hz];rfl)]
   ·obtain ⟨A,a1,a2,a3,a4,_⟩:=TZ E hE
    refine ⟨A,a1,a3,a4,fun y hy=> ?_⟩
    rcases a2 y hy with h5 |h5 |⟨e,he,zb,P0,_⟩ |h5
    ·exact .inl h5
    ·exact .inr (.inl h5)
    ·exfalso
     unfold iz at hz
     rw [List.countP_eq_zero] at hz
     exact hz e he (by simp [zb,P0])
    ·exact .inr (.inr h5)
  ·obtain ⟨eb,heb,am3,_⟩:=Ii (Nat.pos_of_ne_zero hz)
   have lN:e0.r≠0:=fun h5=>by
    rcases hd _ _ _ Wj h5 with h6 |h6
    ·have :=g1.pos e0 Fq pq
     omega
    ·have :=h6 eb (cP.2 heb)
     omega
   obtain ⟨n',hn',ls,jK,NI⟩:=hr _ _ _ Wj lN
   have aeY:=(kF ok Fq).2
   have VS:∀y∈(S.rc n').lits,y≠e0.x→∃e∈Q',e.x= -y:=fun y hy dI=>by
    rw [jK] at hy
    rcases av.1 hy with rfl |hy
    ·exact absurd rfl dI
    ·obtain ⟨e',dZ,h5⟩:=NI y hy
     exact ⟨e',cP.1 dZ,h5⟩
   have g5:LI S S.T.levels.length { G1 with fF:=G1.fF-1 } Q' (e0::(P.reverse++D)):=⟨Wj,g1.T,g1.lits,Vz,g1.iY,g1.low,g1.nd,g1.l0,g1.pos⟩
   obtain ⟨GE,xe,k1,k2⟩:=sY ok hr hd f { G1 with fF:=G1.fF-1 } n' e0.x Q' (e0::(P.reverse++D)) (by rw [hQ] at hf;simp at hf;omega) g5 VS (.inl (Nat.pos_of_ne_zero hz)) (fun E hE=>by
    obtain ⟨A,a1,a2,a3,a4,a5⟩:=TZ E hE
    have uE:e0.x≠0:=zB (fm ok Fq).1
    refine ⟨_,hE.1 A (fun y=>y∈(S.rc n').lits) e0.x uE a4 (by rw [jK];exact aY) a1 (hE.2 n' (by rw [jK];simp)),fun x hx=> ?_,fun y hy=> .inl ⟨a3 y hy,fun e9=> ?_⟩,fun e he zb P0=> .inl ⟨a5 e he zb P0,fun e9=> ?_⟩,fun y hy=> .inr hy⟩
    ·rcases hx with ⟨h5,h6⟩ |h5
     ·rcases a2 x h5 with h7 |h7 |h7 |h7
      ·exact .inl h7
      ·exact absurd h7 h6
      ·exact .inr (.inl h7)
      ·exact .inr (.inr (.inr h7))
     ·exact .inr (.inr (.inl h5))
    ·obtain ⟨_,e,he,qt,_,bM⟩:=g1.iY y hy
     rw [jm ok he Fq (by rw [show e.x=e0.x by omega])] at bM
     omega
    ·have RR:e∈S.R:=by rw [Wj];exact ak _ (cP.2 he)
     have :=jm ok RR Fq (by rw [show e.x=e0.x by omega])
     have tU:=ok.rep.nd
     rw [Wj,bJ,List.nodup_append] at tU
     exact tU.2.2 _ (ia (cP.2 he)) _ (ia aY) (by rw [this]))
   refine ⟨GE,xe,?_,k2⟩
   unfold dR
   rw [hdw]
   simp only
   rw [if_neg (by rw [Vz];omega),g1.T,aeY,hn',show (n':Int)+1-1=(n':Int) from by omega]
   exact k1
end Sv
theorem kU {l:List Int} {i:Nat} (h:i<l.length):l[i]! =l[i]:=by simp only [aa,af h,ay]
theorem gz {l:List Int} {i j:Nat} (hi:i<l.length) (hj:j<l.length):(dg l i j).Perm l:=by
 unfold dg
 rw [kU hi,kU hj]
 exact List.set_set_perm hi hj
theorem nV {T:Tr}:∀(f k:Nat) (l:List Int) (cj:Int),l.length≤f+k→1≤k→(0<cj→T.da (tv l[1]!)=cj)→(∀j,1≤j→j<k→j<l.length→T.da (tv l[j]!)≤cj)→
  (Sv.second T f k l cj).1.Perm l∧(Sv.second T f k l cj).1[0]! =l[0]! ∧(0<(Sv.second T f k l cj).2→T.da (tv (Sv.second T f k l cj).1[1]!)=(Sv.second T f k l cj).2)∧(∀j,1≤j→j<l.length→T.da (tv (Sv.second T f k l cj).1[j]!)≤(Sv.second T f k l cj).2)
 |0,k,l,cj,hf,hk,h1,h2=>⟨dh _,rfl,h1,fun j hj hl=>h2 j hj (by omega) hl⟩
 |f+1,k,l,cj,hf,hk,h1,h2=>by
  rw [Sv.second]
  by_cases nI:k<l.length
  ·rw [if_pos nI]
   by_cases hv:cj<T.da (tv l[k]!)
   ·rw [if_pos hv]
    have hg:=fun j (hj:j<l.length)=>lV (l:=l) (i:=1) (j:=k) (k:=j) (by omega) nI hj
    have ih:=nV (T:=T) f (k+1) (dg l 1 k) (T.da (tv l[k]!)) (by rw [fv];omega) (by omega) (fun _=>by
     rw [hg 1 (by omega)]
     split
     ·rename_i e;rw [←e]
     ·rw [if_pos rfl]) (fun j hj RF XV=>by
     rw [fv] at XV
     rw [hg j XV]
     split
     ·by_cases e1:1=k
      ·rw [e1];exact Int.le_refl _
      ·have :=h2 1 (by omega) (by omega) (by omega);omega
     ·split
      ·exact Int.le_refl _
      ·have :=h2 j hj (by omega) XV;omega)
    rw [fv] at ih
    refine ⟨ih.1.trans (gz (by omega) nI),?_,ih.2.2.1,ih.2.2.2⟩
    rw [ih.2.1,hg 0 (by omega),if_neg (by omega),if_neg (by omega)]
   ·rw [if_neg hv]
    exact nV f (k+1) l cj (by omega) (by omega) h1 (fun j hj RF XV=>by
     by_cases e:j=k
     ·rw [e];omega
     ·exact h2 j hj (by omega) XV)
  ·rw [if_neg nI]
   exact ⟨dh _,rfl,h1,fun j hj hl=>h2 j hj (by omega) hl⟩
namespace Sv
def jP (S:Sv):Tr×Nat×List (List Nat)×List Bool×List Bool×List Int×Nat×Nat×Nat×Int×Nat×Bool×Bool×List (List Int×Bool):=
 (S.T,S.vars,S.watch,S.phase,S.model,S.core,S.head,S.used,S.bump,S.many,S.bP,S.bad,S.has,S.list.map fun c=>(c.lits,c.iY))
theorem Eo (S:Sv) (n:Nat):(S.gf n).jP=S.jP:=by
 unfold jP gf
 simp only [List.map_set]
 congr 14
 by_cases h:n<S.list.length
 ·have :(S.list.map fun c=>(c.lits,c.iY))[n]? =some ((S.rc n).lits,(S.rc n).iY):=by
   rw [aO,af h]
   simp only [cu,rc,aa,af h,ay]
  exact kz this
 ·rw [List.set_eq_of_length_le (by simp;omega)]
theorem IL (G:Gr) (l:Int):(meet G l).S.jP=G.S.jP:=by
 by_cases h:tv l∈G.seen∨G.S.T.da (tv l)≤0
 ·rw [iK h]
 ·by_cases h2:G.S.T.da (tv l)=G.S.T.levels.length
  ·rw [fG h h2];rfl
  ·rw [gR h h2];rfl
theorem pW (skip:Int):∀(ls:List Int) (G:Gr),(meets skip ls G).S.jP=G.S.jP
 |[],G=>rfl
 |l::r,G=>by
  rw [meets]
  split
  ·rw [pW skip r,IL]
  ·exact pW skip r G
theorem sR:∀(f:Nat) (G:Gr) (n skip:Int) (rest:List Int) (GE:Gr) (xe:Int),fg f G n skip rest=some (GE,xe)→GE.S.jP=G.S.jP
 |0,G,n,skip,rest,GE,xe,h=>by rw [jx] at h;cases h
 |f+1,G,n,skip,rest,GE,xe,h=>by
  rw [kp] at h
  have hk:(dH G n skip).S.jP=G.S.jP:=by
   unfold dH
   split
   ·rw [pW];exact Eo G.S n.toNat
   ·rfl
  generalize dH G n skip=G1 at h hk
  unfold dR at h
  cases hq:rest.dropWhile (fun x=>decide (tv x∉G1.seen)) with
  |nil=>rw [hq] at h;cases h
  |cons x r=>
   rw [hq] at h
   simp only at h
   split at h
   ·simp only [Option.some.injEq,Prod.mk.injEq] at h
    obtain ⟨rfl,rfl⟩:=h
    exact hk
   ·exact (sR f _ _ _ _ GE xe h).trans hk
theorem j7 {S S':Sv} (h:S'.jP=S.jP) (n:Nat):(S'.rc n).lits=(S.rc n).lits∧(S'.rc n).iY=(S.rc n).iY:=by
 have hl:S'.list.map (fun c=>(c.lits,c.iY))=S.list.map fun c=>(c.lits,c.iY):=by
  have :=congrArg (fun x=>x.2.2.2.2.2.2.2.2.2.2.2.2.2) h
  exact this
 have e:∀S:Sv,((S.rc n).lits,(S.rc n).iY)=((S.list.map fun c=>(c.lits,c.iY))[n]?).getD ([],false):=fun S=>by
  rw [aO]
  unfold rc
  rw [aa]
  cases h:S.list[n]? with
  |none=>rfl
  |some c=>rfl
 have h1:=e S
 rw [←hl,←e S'] at h1
 exact ⟨(congrArg Prod.fst h1).symm,(congrArg Prod.snd h1).symm⟩
structure Lrd (S:Sv) (l:List Int) (cj:Int):Prop where
 l0:0<l.length
 top:∃e∈S.R,l[0]! = -e.x∧e.l=S.T.levels.length
 tail:∀k,1≤k→k<l.length→∃e∈S.R,e.x= -l[k]! ∧1≤e.l∧e.l≤cj
 lt:0≤cj∧cj<S.T.levels.length
 one:l.length=1→cj=0
 two:2≤l.length→∃e∈S.R,e.x= -l[1]! ∧e.l=cj
 nd:(l.map tv).Nodup
 sem:∀a,S.Good a→kV a l
 ext:∀E,S.DQ E→∃A,E A∧(∀x∈l,A x)∧∀x,A x→x∈l∨S.F0 x
theorem Good.clo {S:Sv} {a:Nat→Bool} (h:S.Good a):S.DQ fun A=>∃y,A y∧pe a y:=
 ⟨fun A B x hx hA hB ⟨y,h1,h2⟩ ⟨z,h3,h4⟩=>by
  by_cases e:y= -x
  ·by_cases e2:z=x
   ·rw [e,pe.neg hx] at h2
    rw [e2] at h4
    exact absurd h4 h2
   ·exact ⟨z, .inr ⟨h3,e2⟩,h4⟩
  ·exact ⟨y, .inl ⟨h1,e⟩,h2⟩,fun n hn=>h.1 n hn⟩
theorem iM {S:Sv} {m:Nat} (ok:S.Ok m) (hr:S.Rsn) (hd:S.Dec) {n:Nat} (hc:S.GI n) (JX:0<S.T.levels.length) (hn:((S.rc n).lits)≠[]):
  ∃S1 l cj,S.gF n=some (S1,l,cj)∧S1.jP=S.jP∧S.Lrd l cj:=by
 have Nr:S.T.lits.reverse=S.R.reverse.map (·.x):=by
  rw [ok.rep.lits,List.map_reverse]
 obtain ⟨vU,yc,QT,ec,hec,afz,afA⟩:=hc
 have Zu:∀y∈(S.rc n).lits,y≠0:=fun y hy=>(ok.lr n y hy).1
 obtain ⟨GE,xe,h1,h2⟩:=sY ok hr hd (S.T.lits.length+1) ⟨S,[],0,[0]⟩ n 0 S.R.reverse [] (by rw [List.length_reverse,iT];omega)
  ⟨by simp,rfl,fun _=>rfl,by simp [iz],fun y hy=>by simp at hy,fun e _ he=>by simp at he,by simp,by simp,fun e _ he=>by simp at he⟩
  (fun y hy _=>by
   obtain ⟨e,he,h5⟩:=vU y hy
   exact ⟨e,cP.2 he,h5⟩)
  (.inr ⟨JX,yc,QT,Zu yc QT,ec,cP.2 hec,afz,afA⟩)
  (fun E hE=>⟨_,hE.2 n hn,fun x hx=> .inr (.inr (.inl ⟨hx,Zu x hx⟩)),(by simp),fun e _ _ hs=>by simp at hs,fun y hy=>hy.1⟩)
 rw [←Nr] at h1
 have hk:=sR _ _ _ _ _ GE xe h1
 obtain ⟨et,het,tY,JT⟩:=h2.top
 have hrt:=fm ok het
 have nF:=ok.vl
 cases hg:GE.bn with
 |nil=>have :=h2.l0;rw [hg] at this;simp at this
 |cons z0 tl=>
  have NG:=h2.iY
  have tU:=h2.nd
  have Wa:=h2.ext
  rw [hg] at NG tU Wa
  simp only [List.tail_cons] at NG tU Wa
  have aeS:GE.bn.set 0 (-xe)= -xe::tl:=by rw [hg];rfl
  have NJ:∀y∈tl,1≤S.T.da (tv y)∧S.T.da (tv y)<S.T.levels.length:=fun y hy=>by
   obtain ⟨e,he,h5,h6,h7⟩:=NG y hy
   rw [(jb ok he h5).1,(kF ok he).1]
   exact ⟨h6,h7⟩
  have Vp:=nV (T:=GE.S.T) (-xe::tl).length 1 (-xe::tl) 0 (by omega) (au 1) (fun h=>by omega) (fun j hj RF _=>by omega)
  obtain ⟨lr,xV⟩:∃lr,Sv.second GE.S.T (-xe::tl).length 1 (-xe::tl) 0=lr:=⟨_,rfl⟩
  rw [xV,h2.T] at Vp
  obtain ⟨hp,Nv,hp1,Nt⟩:=Vp
  have lI:=kB (T:=GE.S.T) (D:=S.T.levels.length) (fun v=>by rw [h2.T];exact (EK ok v).2) (-xe::tl).length 1 (-xe::tl) 0
  rw [xV] at lI
  have hlen:=hp.length_eq
  have ke:∀k,1≤k→k<lr.1.length→lr.1[k]! ∈tl:=fun k hk nI=>by
   have ae6:((-xe::tl).map tv).Nodup:=by
    rw [cM,eB]
    refine ⟨fun hm=> ?_,tU⟩
    rw [az] at hm
    obtain ⟨y,hy,h5⟩:=hm
    have h6:=NJ y hy
    rw [h5,←tY,zC et.x hrt.1 (by omega),(kF ok het).1,JT] at h6
    omega
   have ae5:(lr.1.map tv).Nodup:=(hp.map tv).nodup_iff.2 ae6
   have hm:lr.1[k]! ∈ -xe::tl:=hp.mem_iff.1 (bu nI)
   rcases av.1 hm with h5 |h5
   ·exfalso
    have h6:lr.1[0]! = -xe:=Nv
    have h7:(lr.1.map tv)[0]'(by simp;omega)=(lr.1.map tv)[k]'(by simpa using nI):=by
     rw [List.getElem_map,List.getElem_map,←kU nI,←kU (by omega:0<lr.1.length),h5,h6]
    exact (List.pairwise_iff_getElem.1 ae5) 0 k _ _ (by omega) h7
   ·exact h5
  have Lx:∀E,S.DQ E→∃A,E A∧(∀x∈lr.1,A x)∧∀x,A x→x∈lr.1∨S.F0 x:=fun E hE=>by
   obtain ⟨A,a1,a2,a3,a4⟩:=Wa E hE
   refine ⟨A,a1,fun x hx=> ?_,fun x hx=> ?_⟩
   ·rcases av.1 (hp.mem_iff.1 hx) with h5 |h5
    ·rw [h5];exact a3
    ·exact a2 x h5
   ·rcases a4 x hx with h5 |h5 |h5
    ·exact .inl (hp.mem_iff.2 (aP _ h5))
    ·exact .inl (hp.mem_iff.2 (by rw [h5];exact aY))
    ·exact .inr h5
  refine ⟨GE.S,lr.1,lr.2,?_,hk,?_⟩
  ·unfold gF
   rw [h1]
   simp only
   rw [aeS,xV]
  ·refine ⟨by rw [hlen];simp,⟨et,het,by rw [Nv,tY];rfl,JT⟩,fun k hk nI=> ?_,⟨lI.1,?_⟩,fun h5=> ?_,fun h5=> ?_,?_,fun a ha=> ?_,Lx⟩
   ·obtain ⟨e,he,h5,h6,h7⟩:=NG _ (ke k hk nI)
    refine ⟨e,he,h5,h6,?_⟩
    have h8:=Nt k hk (by omega)
    rw [(jb ok he h5).1,(kF ok he).1] at h8
    exact h8
   ·by_cases h0:lr.2=0
    ·omega
    ·have h6:=hp1 (by omega)
     by_cases h7:1<lr.1.length
     ·have h8:=NJ _ (ke 1 (au 1) h7)
      omega
     ·exfalso
      --with one literal alone UK level is 0
      have h9:tl=[]:=by
       have :lr.1.length=tl.length+1:=by rw [hlen];rfl
       exact aJ (by omega)
      rw [h9] at xV
      have :Sv.second GE.S.T [-xe].length 1 [-xe] 0=([-xe],0):=nU (by simp)
      rw [this] at xV
      exact h0 (by rw [←xV])
   ·have h9:tl=[]:=by
     have :lr.1.length=tl.length+1:=by rw [hlen];rfl
     exact aJ (by omega)
    rw [h9] at xV
    have :Sv.second GE.S.T [-xe].length 1 [-xe] 0=([-xe],0):=nU (by simp)
    rw [this] at xV
    rw [←xV]
   ·obtain ⟨e,he,h6,h7,h8⟩:=NG _ (ke 1 (au 1) (by omega))
    refine ⟨e,he,h6,?_⟩
    have h9:=Nt 1 (au 1) (by omega)
    rw [(jb ok he h6).1,(kF ok he).1] at h9
    have h10:=hp1 (by omega)
    rw [(jb ok he h6).1,(kF ok he).1] at h10
    exact h10
   ·rw [(hp.map tv).nodup_iff,cM,eB]
    refine ⟨fun hm=> ?_,tU⟩
    rw [az] at hm
    obtain ⟨y,hy,h5⟩:=hm
    have h6:=NJ y hy
    rw [h5,←tY,zC et.x hrt.1 (by omega),(kF ok het).1,JT] at h6
    omega
   ·obtain ⟨A,⟨y,a1,a2⟩,a3,a4⟩:=Lx _ ha.clo
    rcases a4 y a1 with h5 |⟨e,he,rS,hx⟩
    ·exact ⟨y,h5,a2⟩
    ·have dI:e.x≠0:=zB (fm ok he).1
     have :=ha.2 e he rS
     rw [hx,pe.neg (by omega)] at this
     exact absurd a2 this
end Sv
theorem jc {x y:Int} (h:aW x=aW y):x=y:=by
 unfold aW at h
 split at h<;>split at h<;>omega
theorem mJ {α:Type} {A B R:List α} {e e1:α} (h:A++e::B=R++[e1]):(B=[]∧A=R∧e=e1)∨∃B',B=B'++[e1]∧R=A++e::B':=by
 rcases List.eq_nil_or_concat B with rfl |⟨B',b,rfl⟩
 ·left
  have :=List.append_inj' h rfl
  exact ⟨rfl,this.1,by simpa using this.2⟩
 ·right
  rw [List.concat_eq_append,←List.cons_append,←js] at h
  have :=List.append_inj' h rfl
  refine ⟨B',?_,this.1.symm⟩
  rw [List.concat_eq_append,show b=e1 by simpa using this.2]
theorem rm {l:List Int} (hn:(l.map tv).Nodup) {i j:Nat} (hi:i<l.length) (hj:j<l.length) (JQ:i≠j):tv l[i]! ≠tv l[j]! :=by
 have hp:=List.pairwise_iff_getElem.1 hn
 rw [kU hi,kU hj]
 rcases Nat.lt_or_gt_of_ne JQ with h |h
 ·have :=hp i j (by simpa using hi) (by simpa using hj) h
  simpa using this
 ·have :=hp j i (by simpa using hj) (by simpa using hi) h
  intro e
  exact this (by simpa using e.symm)
namespace Sv
def W (S:Sv) (off:Int) (L:List Nat) (c:Nat):List Nat:=if c=aW off then L else S.fH c
structure WI (S:Sv) (V:Nat→List Nat):Prop where
 nd:∀c,(V c).Nodup
 wd:∀c n,n∈V c→(S.rc n).lits≠[]→aW (S.rc n).lits[0]! =c∨aW (S.rc n).lits[1]! =c
 wc:∀n,(S.rc n).lits≠[]→n∈V (aW (S.rc n).lits[0]!)∧n∈V (aW (S.rc n).lits[1]!)
def WT1 (S:Sv) (D:List St) (n:Nat):Prop:=(S.rc n).lits≠[]→∀e∈D,
 (e.x= -(S.rc n).lits[0]! →∃e'∈S.R,e'.x=(S.rc n).lits[1]! ∧e'.l≤e.l)∧(e.x= -(S.rc n).lits[1]! →∃e'∈S.R,e'.x=(S.rc n).lits[0]! ∧e'.l≤e.l)
structure Inv (S:Sv):Prop where
 ok:S.Ok 0
 kg:∀n,((S.rc n).lits.map tv).Nodup
 sS:S.Rsn
 dec:S.Dec
 hd:S.Hd
 wi:S.WI S.fH
 wt:∀n,S.WT1 (S.R.take S.head) n
structure VI (S:Sv) (e0:St) (todo keep:List Nat):Prop where
 ok:S.Ok (keep.length+todo.length)
 kg:∀n,((S.rc n).lits.map tv).Nodup
 sS:S.Rsn
 dec:S.Dec
 hd:S.Hd
 at_:S.R[S.head]? =some e0
 IU:S.fH (aW (-e0.x))=[]
 wi:S.WI (S.W (-e0.x) (keep++todo))
 wt:∀n,S.WT1 (S.R.take S.head) n
 wk:∀n∈keep,S.WT1 [e0] n
theorem xf (S:Sv) (off:Int) (L:List Nat):S.W off L (aW off)=L:=if_pos rfl
theorem tC (S:Sv) {off:Int} (L:List Nat) {c:Nat} (h:c≠aW off):S.W off L c=S.fH c:=if_neg h
theorem pU {S:Sv} {m:Nat} (ok:S.Ok m) {n:Nat} (h:(S.rc n).lits≠[]):2≤(S.rc n).lits.length:=by
 have h1:=ok.ln n
 have h2:(S.rc n).lits.length≠0:=fun e=>h (aJ e)
 omega
theorem lx {S:Sv} {n:Nat} (h:(S.rc n).lits≠[]):n<S.list.length:=by
 by_cases hn:n<S.list.length
 ·exact hn
 ·rw [mL (by omega)] at h
  exact absurd rfl h
theorem VI.at (S:Sv) {e0:St} {todo keep:List Nat} (h:S.VI e0 todo keep):e0∈S.R∧S.head<S.R.length∧e0.l=S.T.levels.length:=by
 have h1:=h.at_
 obtain ⟨h2,h3⟩:=gK.1 h1
 refine ⟨List.mem_of_getElem? h1,h2,h.hd e0 ?_⟩
 rw [List.drop_eq_getElem_cons h2,h3]
 exact aY
theorem iJ {S:Sv} {m:Nat} (ok:S.Ok m) {e e':St} (h:e∈S.R) (h':e'∈S.R) (hx:e.x= -e'.x):False:=by
 obtain ⟨h1,h2⟩:=jb ok h (y:= -e.x) (by omega)
 have h3:e'.x= -e.x:=by omega
 rw [←h3] at h1
 have :=jm ok h h' h1.symm
 subst this
 have h4:e.x=0:=by omega
 have h5:=fm ok h
 rw [h4] at h5
 have :tv 0=0:=by rfl
 omega
theorem VI.dead {S:Sv} {e0:St} {n:Nat} {r keep:List Nat} (h:S.VI e0 (n::r) keep) (hn:(S.rc n).lits=[]):S.VI e0 r keep:=by
 have hs:(keep++r).Sublist (keep++n::r):=List.Sublist.append_left (List.sublist_cons_self n r) keep
 refine ⟨h.ok.less (by simp only [bO];omega),h.kg,h.sS,h.dec,h.hd,h.at_,h.IU,⟨fun c=> ?_,fun c j hj hl=> ?_,fun j hl=> ?_⟩,h.wt,h.wk⟩
 ·by_cases hc:c=aW (-e0.x)
  ·have :=h.wi.nd c
   subst hc
   rw [xf] at this⊢
   exact this.sublist hs
  ·have :=h.wi.nd c
   rw [tC _ _ hc] at this⊢
   exact this
 ·refine h.wi.wd c j ?_ hl
  by_cases hc:c=aW (-e0.x)
  ·subst hc
   rw [xf] at hj⊢
   exact hs.subset hj
  ·rw [tC _ _ hc] at hj⊢
   exact hj
 ·have RD:j≠n:=fun e=>hl (by rw [e];exact hn)
  have hq:=h.wi.wc j hl
  have hm:∀c,j∈S.W (-e0.x) (keep++n::r) c→j∈S.W (-e0.x) (keep++r) c:=fun c hj=>by
   by_cases hc:c=aW (-e0.x)
   ·subst hc
    rw [xf] at hj⊢
    rcases ag.1 hj with h1 |h1
    ·exact ak _ h1
    ·rcases av.1 h1 with h1 |h1
     ·exact absurd h1 RD
     ·exact aM _ h1
   ·rw [tC _ _ hc] at hj⊢
    exact hj
  exact ⟨hm _ hq.1,hm _ hq.2⟩
theorem VI.cG {S:Sv} {e0:St} {n:Nat} {r keep:List Nat} (h:S.VI e0 (n::r) keep) (hn:(S.rc n).lits≠[]):
  (S.cG n (-e0.x)).VI e0 (n::r) keep∧((S.cG n (-e0.x)).rc n).lits[1]! = -e0.x∧((S.cG n (-e0.x)).rc n).lits≠[]∧((S.cG n (-e0.x)).rc n).lits.Perm (S.rc n).lits:=by
 have h2:=pU h.ok hn
 have qw:=lx hn
 obtain ⟨pq,LO,lI⟩:=h.at
 have hw:=h.wi.wd (aW (-e0.x)) n (by rw [xf];simp) hn
 have okT:=Ok.cG h.ok n (-e0.x)
 unfold Sv.cG at okT⊢
 by_cases h0:(S.rc n).lits[0]! = -e0.x
 ·rw [if_pos h0] at okT⊢
  have hp:=gz (l:=(S.rc n).lits) (i:=0) (j:=1) (by omega) (by omega)
  have ed:∀j,(S.ep n (dg (S.rc n).lits 0 1)).rc j=if n=j then { S.rc n with lits:=dg (S.rc n).lits 0 1 } else S.rc j:=fun j=>by
   rw [lj]
   by_cases e:n=j
   ·rw [if_pos ⟨e,qw⟩,if_pos e]
   ·rw [if_neg (fun h=>e h.1),if_neg e]
  have tS:((S.ep n (dg (S.rc n).lits 0 1)).rc n).lits=dg (S.rc n).lits 0 1:=by rw [ed,if_pos rfl]
  have vK:∀j,j≠n→(S.ep n (dg (S.rc n).lits 0 1)).rc j=S.rc j:=fun j hj=>by rw [ed,if_neg (fun e=>hj e.symm)]
  have g0:(dg (S.rc n).lits 0 1)[0]! =(S.rc n).lits[1]! :=by
   rw [lV (by omega) (by omega) (by omega),if_neg (by omega),if_pos rfl]
  have g1:(dg (S.rc n).lits 0 1)[1]! =(S.rc n).lits[0]! :=by
   rw [lV (by omega) (by omega) (by omega),if_pos rfl]
  have dI:dg (S.rc n).lits 0 1≠[]:=fun e=>by
   have :=fv (S.rc n).lits 0 1
   rw [e] at this
   simp at this
   omega
  have hnk:n∉keep:=fun hk=>by
   have :=h.wi.nd (aW (-e0.x))
   rw [xf,List.nodup_append] at this
   exact this.2.2 n hk n aY rfl
  refine ⟨⟨okT,fun j=> ?_,?_,h.dec,h.hd,h.at_,h.IU,⟨h.wi.nd,fun c j hj hl=> ?_,fun j hl=> ?_⟩,fun j=> ?_,fun j hj=> ?_⟩,by rw [tS,g1,h0],by rw [tS];exact dI,by rw [tS];exact hp⟩
  ·by_cases e:j=n
   ·rw [e,tS]
    exact (hp.map tv).nodup_iff.2 (h.kg n)
   ·rw [vK j e];exact h.kg j
  ·intro A e B hR hr
   obtain ⟨k,hk,ls,jK,gV⟩:=h.sS A e B hR hr
   have ly:k≠n:=fun ek=>by
    rw [ek] at jK
    rw [jK] at h0
    have h0:e.x= -e0.x:=h0
    exact iJ h.ok (by rw [show S.R=A++e::B from hR];simp) pq h0
   exact ⟨k,hk,ls,by rw [vK k ly];exact jK,gV⟩
  ·by_cases e:j=n
   ·subst e
    rw [tS,g0,g1]
    exact (h.wi.wd c j hj hn).symm
   ·rw [vK j e] at hl⊢
    exact h.wi.wd c j hj hl
  ·by_cases e:j=n
   ·subst e
    rw [tS,g0,g1]
    exact (h.wi.wc j hn).symm
   ·rw [vK j e] at hl⊢
    exact h.wi.wc j hl
  ·intro hl e he
   by_cases ej:j=n
   ·subst ej
    rw [tS,g0,g1]
    exact (h.wt j hn e he).symm
   ·rw [vK j ej] at hl⊢
    exact h.wt j hl e he
  ·have ej:j≠n:=fun e=>hnk (e▸hj)
   intro hl e he
   rw [vK j ej] at hl⊢
   exact h.wk j hj hl e he
 ·rw [if_neg h0] at okT⊢
  refine ⟨h,?_,hn,dh _⟩
  rcases hw with hw |hw
  ·exact absurd (jc hw) h0
  ·exact jc hw
theorem VI.stay {S:Sv} {e0:St} {n:Nat} {r keep:List Nat} (h:S.VI e0 (n::r) keep) (hn:(S.rc n).lits≠[]) (h1:(S.rc n).lits[1]! = -e0.x) (hv:0<S.val (S.rc n).lits[0]!):S.VI e0 r (keep++[n]):=by
 have ha:(keep++[n])++r=keep++n::r:=by simp
 refine ⟨h.ok.less (by simp;omega),h.kg,h.sS,h.dec,h.hd,h.at_,h.IU,by rw [ha];exact h.wi,h.wt,fun j hj=> ?_⟩
 rcases ag.1 hj with hj |hj
 ·exact h.wk j hj
 ·rw [ah.1 hj]
  intro hl e he
  rw [ah.1 he]
  obtain ⟨pq,LO,lI⟩:=h.at
  obtain ⟨e',dZ,PS⟩:=(fu h.ok _).1 hv
  refine ⟨fun hx=> ?_,fun hx=>⟨e',dZ,PS,?_⟩⟩
  ·exact (iJ h.ok pq dZ (by rw [hx,PS])).elim
  ·have :=(fm h.ok dZ).2.2.2
   omega
theorem VI.yR {S:Sv} {e0:St} {n:Nat} {r keep:List Nat} (h:S.VI e0 (n::r) keep) (hn:(S.rc n).lits≠[]) (h1:(S.rc n).lits[1]! = -e0.x) (hv:¬0<S.val (S.rc n).lits[0]!) (hm:(S.di n).2=true):(S.di n).1.VI e0 r keep:=by
 have h2:=pU h.ok hn
 have qw:=lx hn
 obtain ⟨pq,LO,lI⟩:=h.at
 have XH:=Ok.yR (h.ok.less (m':=keep.length+r.length+1) (by simp;omega)) qw hm
 have th:=p8 S n
 unfold Sv.di at XH hm th⊢
 cases hk:S.fV (S.rc n).lits (S.rc n).lits.length 2 with
 |none=>rw [hk] at hm;cases hm
 |some k=>
  rw [hk] at XH th
  obtain ⟨k1,k2,k3⟩:=rq _ _ _ hk
  simp only [Sv.oW] at XH th⊢
  obtain ⟨x,hx⟩:∃x,(S.rc n).lits[k]! =x:=⟨_,rfl⟩
  rw [hx] at XH th k3⊢
  have hxo:x≠ -e0.x:=fun e=>by
   have :=rm (h.kg n) k2 (by omega:1<_) (by omega)
   rw [hx,h1,e] at this
   exact this rfl
  have hcx:aW x≠aW (-e0.x):=fun e=>hxo (jc e)
  have uE:(S.rc n).lits[0]! ≠x:=fun e=>by
   have :=rm (h.kg n) (by omega:0<_) k2 (by omega)
   rw [hx,e] at this
   exact this rfl
  have h0o:(S.rc n).lits[0]! ≠ -e0.x:=fun e=>by
   have :=rm (h.kg n) (by omega:0<_) (by omega:1<_) (by omega)
   rw [h1,e] at this
   exact this rfl
  have hp:=gz (l:=(S.rc n).lits) (i:=1) (j:=k) (by omega) k2
  have g0:(dg (S.rc n).lits 1 k)[0]! =(S.rc n).lits[0]! :=by
   rw [lV (by omega) k2 (by omega),if_neg (by omega),if_neg (by omega)]
  have g1:(dg (S.rc n).lits 1 k)[1]! =x:=by
   rw [lV (by omega) k2 (by omega),if_neg (by omega),if_pos rfl,hx]
  have dI:dg (S.rc n).lits 1 k≠[]:=fun e=>by
   have :=fv (S.rc n).lits 1 k
   rw [e] at this
   simp at this
   omega
  obtain ⟨S',uJ⟩:∃S',(S.ep n (dg (S.rc n).lits 1 k)).gP (aW x) n=S':=⟨_,rfl⟩
  have ed:∀j,S'.rc j=if n=j then { S.rc n with lits:=dg (S.rc n).lits 1 k } else S.rc j:=fun j=>by
   rw [←uJ]
   show (S.ep n (dg (S.rc n).lits 1 k)).rc j=_
   rw [lj]
   by_cases e:n=j
   ·rw [if_pos ⟨e,qw⟩,if_pos e]
   ·rw [if_neg (fun h=>e h.1),if_neg e]
  have tS:(S'.rc n).lits=dg (S.rc n).lits 1 k:=by rw [ed,if_pos rfl]
  have vK:∀j,j≠n→S'.rc j=S.rc j:=fun j hj=>by rw [ed,if_neg (fun e=>hj e.symm)]
  have qf:aW x<S.watch.length:=by
   have :=h.ok.lit k2
   rw [hx] at this
   rw [h.ok.wl]
   exact gH this.2.1 this.2.2
  have vH:∀c,S'.fH c=if c=aW x then S.fH c++[n] else S.fH c:=fun c=>by
   rw [←uJ]
   unfold fH gP cd ep
   rw [dT]
   by_cases e:aW x=c
   ·rw [if_pos ⟨e,qf⟩,if_pos e.symm,←e];rfl
   ·rw [if_neg (fun h=>e h.1),if_neg (fun h=>e h.symm)]
  have FJ:S'.R=S.R:=dp (by rw [←uJ];rfl)
  have hSh:S'.head=S.head:=by rw [←uJ];rfl
  have hST:S'.T=S.T:=by rw [←uJ];rfl
  rw [uJ] at XH⊢
  have tU:=h.wi.nd (aW (-e0.x))
  rw [xf,List.nodup_append] at tU
  have hnk:n∉keep:=fun hk=>tU.2.2 n hk n aY rfl
  have hnr:n∉r:=(eB.1 tU.2.1).1
  have hs:(keep++r).Sublist (keep++n::r):=List.Sublist.append_left (List.sublist_cons_self n r) keep
  have Fg:n∉S.fH (aW x):=fun hm=>by
   have :=h.wi.wd (aW x) n (by rw [tC _ _ hcx];exact hm) hn
   rcases this with e |e
   ·exact uE (jc e)
   ·rw [h1] at e;exact hxo (jc e).symm
  refine ⟨XH,fun j=> ?_,?_,?_,?_,by rw [FJ,hSh];exact h.at_,?_,⟨fun c=> ?_,fun c j hj hl=> ?_,fun j hl=> ?_⟩,fun j=> ?_,fun j hj=> ?_⟩
  ·by_cases e:j=n
   ·rw [e,tS]
    exact (hp.map tv).nodup_iff.2 (h.kg n)
   ·rw [vK j e];exact h.kg j
  ·intro A e B hR hr
   rw [FJ] at hR
   obtain ⟨i,hi,ls,jK,gV⟩:=h.sS A e B hR hr
   have ke:i≠n:=fun ei=>by
    rw [ei] at jK
    rw [jK] at hv
    exact hv ((fu h.ok _).2 ⟨e,by rw [hR];simp,rfl⟩)
   exact ⟨i,hi,ls,by rw [vK i ke];exact jK,gV⟩
  ·intro A e B hR hr
   rw [FJ] at hR
   exact h.dec A e B hR hr
  ·intro e he
   rw [FJ,hSh] at he
   rw [hST]
   exact h.hd e he
  ·rw [vH,if_neg (fun e=>hcx e.symm)]
   exact h.IU
  ·by_cases hc:c=aW (-e0.x)
   ·have :=h.wi.nd c
    subst hc
    rw [xf] at this⊢
    exact this.sublist hs
   ·have :=h.wi.nd c
    rw [tC _ _ hc] at this⊢
    rw [vH]
    split
    ·rename_i ec
     rw [List.nodup_append]
     refine ⟨this,by simp,fun a ha b hb=> ?_⟩
     rw [ah.1 hb]
     intro e
     rw [e,ec] at ha
     exact Fg ha
    ·exact this
  ·have hold:j∈S.W (-e0.x) (keep++n::r) c∨(j=n∧c=aW x):=by
    by_cases hc:c=aW (-e0.x)
    ·subst hc
     rw [xf] at hj⊢
     exact .inl (hs.subset hj)
    ·rw [tC _ _ hc] at hj⊢
     rw [vH] at hj
     split at hj
     ·rename_i ec
      rcases ag.1 hj with h3 |h3
      ·exact .inl h3
      ·exact .inr ⟨ah.1 h3,ec⟩
     ·exact .inl hj
   by_cases e:j=n
   ·subst e
    rw [tS,g0,g1]
    by_cases hc:c=aW (-e0.x)
    ·subst hc
     rw [xf] at hj
     rcases ag.1 hj with h3 |h3
     ·exact absurd h3 hnk
     ·exact absurd h3 hnr
    ·rcases hold with h3 |h3
     ·rcases h.wi.wd c j h3 hn with h4 |h4
      ·exact .inl h4
      ·rw [h1] at h4;exact absurd h4.symm hc
     ·exact .inr h3.2.symm
   ·rw [vK j e] at hl⊢
    rcases hold with h3 |h3
    ·exact h.wi.wd c j h3 hl
    ·exact absurd h3.1 e
  ·have xz:∀c,j≠n∨c≠aW (-e0.x)→j∈S.W (-e0.x) (keep++n::r) c→j∈S'.W (-e0.x) (keep++r) c:=fun c hor hj=>by
    by_cases hc:c=aW (-e0.x)
    ·have RD:j≠n:=by
      rcases hor with h3 |h3
      ·exact h3
      ·exact absurd hc h3
     subst hc
     rw [xf] at hj⊢
     rcases ag.1 hj with h3 |h3
     ·exact ak _ h3
     ·rcases av.1 h3 with h3 |h3
      ·exact absurd h3 RD
      ·exact aM _ h3
    ·rw [tC _ _ hc] at hj⊢
     rw [vH]
     split
     ·exact ak _ hj
     ·exact hj
   by_cases e:j=n
   ·subst e
    rw [tS,g0,g1]
    refine ⟨xz _ (.inr fun e=>h0o (jc e)) (h.wi.wc j hn).1,?_⟩
    rw [tC _ _ hcx,vH,if_pos rfl]
    simp
   ·rw [vK j e] at hl⊢
    have :=h.wi.wc j hl
    exact ⟨xz _ (.inl e) this.1,xz _ (.inl e) this.2⟩
  ·intro hl e he
   rw [FJ,hSh] at he
   rw [FJ]
   have RR:e∈S.R:=List.mem_of_mem_take he
   by_cases ej:j=n
   ·subst ej
    rw [tS,g0,g1]
    refine ⟨fun h3=> ?_,fun h3=> ?_⟩
    ·obtain ⟨e',dZ,h4,h5⟩:=(h.wt j hn e he).1 h3
     rw [h1] at h4
     exact (iJ h.ok dZ pq h4).elim
    ·have :S.val x<0:=(val_neg h.ok).2 ⟨e,RR,h3⟩
     omega
   ·rw [vK j ej] at hl⊢
    exact h.wt j hl e he
  ·have ej:j≠n:=fun e=>hnk (e▸hj)
   intro hl e he
   rw [vK j ej] at hl⊢
   rw [FJ]
   exact h.wk j hj hl e he
theorem wv {S:Sv} {l:List Int}:∀(f k:Nat),l.length≤f+k→S.fV l f k=none→∀j,k≤j→j<l.length→S.val l[j]! <0
 |0,k,hf,h,j,h1,h2=>by omega
 |f+1,k,hf,h,j,h1,h2=>by
  simp only [fV] at h
  rw [if_pos (by omega)] at h
  split at h
  ·cases h
  ·by_cases e:j=k
   ·rw [e];omega
   ·exact wv f (k+1) (by omega) h j (by omega) h2
theorem VI.OD {S:Sv} {e0:St} {n:Nat} {r keep:List Nat} (h:S.VI e0 (n::r) keep) (hn:(S.rc n).lits≠[]) (h1:(S.rc n).lits[1]! = -e0.x) (hm:¬(S.di n).2=true):
  ∃ls,(S.rc n).lits=(S.rc n).lits[0]! ::ls∧(-e0.x)∈ls∧∀y∈ls,∃e∈S.R,e.x= -y:=by
 have h2:=pU h.ok hn
 obtain ⟨pq,LO,lI⟩:=h.at
 have hk:S.fV (S.rc n).lits (S.rc n).lits.length 2=none:=by
  unfold Sv.di at hm
  cases hk:S.fV (S.rc n).lits (S.rc n).lits.length 2 with
  |none=>rfl
  |some k=>rw [hk] at hm;exact absurd rfl hm
 have hf:=wv _ _ (by omega) hk
 generalize (S.rc n).lits=l at *
 match l,h2 with
 |x::y::ls,_=>
  have h1:y= -e0.x:=h1
  refine ⟨y::ls,rfl,by rw [h1];exact aY,fun z hz=> ?_⟩
  rcases av.1 hz with rfl |hz
  ·exact ⟨e0,pq,by omega⟩
  ·obtain ⟨i,hi,hg⟩:=List.getElem_of_mem hz
   have :=hf (i+2) (by omega) (by simp;omega)
   rw [kU (by simp;omega)] at this
   simp only [List.getElem_cons_succ] at this
   rw [hg] at this
   exact (val_neg h.ok).1 this
theorem VI.put {S:Sv} {e0:St} {n:Nat} {r keep:List Nat} (h:S.VI e0 (n::r) keep) (hn:(S.rc n).lits≠[]) (h1:(S.rc n).lits[1]! = -e0.x) (hm:¬(S.di n).2=true) (hv:S.val (S.rc n).lits[0]! =0):
  (S.put (S.rc n).lits[0]! (n+1)).VI e0 r (keep++[n]):=by
 have h2:=pU h.ok hn
 have qw:=lx hn
 obtain ⟨pq,LO,lI⟩:=h.at
 obtain ⟨ls,jK,hol,gV⟩:=h.OD hn h1 hm
 have jA:=h.ok.lit (n:=n) (k:=0) (by omega)
 obtain ⟨x,hx⟩:∃x,(S.rc n).lits[0]! =x:=⟨_,rfl⟩
 rw [hx] at jA hv jK⊢
 have nF:=h.ok.vl
 have Vf:1≤tv x∧tv x≤S.vars:=by
  unfold tv
  split
  ·omega
  ·split
   ·omega
   ·omega
 have hb:=iH h.ok Vf.1 Vf.2 hv
 have hR:=ng (r:=(n:Int)+1) h.ok hb
 have okP:=Ok.put h.ok (x:=x) (r:=(n:Int)+1) (by omega)
 have hle:(S.put x (n+1)).T.levels=S.T.levels:=dF S x (n+1)
 have ha:(keep++[n])++r=keep++n::r:=by simp
 have ke:∀e∈S.R,e∈(S.put x (n+1)).R:=fun e he=>by rw [hR];exact ak _ he
 have Hj:(S.put x (n+1)).R.take (S.put x (n+1)).head=S.R.take S.head:=by
  show (S.put x (n+1)).R.take S.head=_
  rw [hR,mB (by omega)]
 refine ⟨okP.less (by simp;omega),h.kg,?_,?_,?_,?_,h.IU,by rw [ha];exact ⟨h.wi.nd,h.wi.wd,h.wi.wc⟩,fun j hl e he=> ?_,fun j hj hl e he=> ?_⟩
 ·intro A e B Bg hr
  rw [hR] at Bg
  rcases mJ Bg.symm with ⟨h3,h4,h5⟩ |⟨B',h3,h4⟩
  ·subst h4
   rw [h5]
   exact ⟨n,rfl,ls,jK,gV⟩
  ·exact h.sS A e B' h4 hr
 ·intro A e B Bg hr
  rw [hR] at Bg
  rcases mJ Bg.symm with ⟨h3,h4,h5⟩ |⟨B',h3,h4⟩
  ·rw [h5] at hr
   have hr:(n:Int)+1=0:=hr
   omega
  ·exact h.dec A e B' h4 hr
 ·intro e he
  have he:e∈(S.put x (n+1)).R.drop S.head:=he
  rw [hle]
  rw [hR,List.drop_append_of_le_length (by omega)] at he
  rcases ag.1 he with h3 |h3
  ·exact h.hd e h3
  ·rw [ah.1 h3]
 ·show (S.put x (n+1)).R[S.head]? =_
  rw [hR,cW LO]
  exact h.at_
 ·rw [Hj] at he
  obtain ⟨h3,h4⟩:=h.wt j hl e he
  refine ⟨fun h5=> ?_,fun h5=> ?_⟩
  ·obtain ⟨e',dZ,h6⟩:=h3 h5
   exact ⟨e',ke e' dZ,h6⟩
  ·obtain ⟨e',dZ,h6⟩:=h4 h5
   exact ⟨e',ke e' dZ,h6⟩
 ·rcases ag.1 hj with hj |hj
  ·obtain ⟨h3,h4⟩:=h.wk j hj hl e he
   refine ⟨fun h5=> ?_,fun h5=> ?_⟩
   ·obtain ⟨e',dZ,h6⟩:=h3 h5
    exact ⟨e',ke e' dZ,h6⟩
   ·obtain ⟨e',dZ,h6⟩:=h4 h5
    exact ⟨e',ke e' dZ,h6⟩
  ·have RD:=ah.1 hj
   subst RD
   rw [ah.1 he]
   refine ⟨fun h5=> ?_,fun h5=>⟨⟨x,S.T.levels.length,(j:Int)+1⟩,by rw [hR];simp,hx.symm,by simp [lI]⟩⟩
   have h5:e0.x= -(S.rc j).lits[0]! :=h5
   rw [hx] at h5
   have :S.val x<0:=(val_neg h.ok).2 ⟨e0,pq,h5⟩
   omega
theorem VI.cfl {S:Sv} {e0:St} {n:Nat} {r keep:List Nat} (h:S.VI e0 (n::r) keep) (hn:(S.rc n).lits≠[]) (h1:(S.rc n).lits[1]! = -e0.x) (hm:¬(S.di n).2=true) (hv:S.val (S.rc n).lits[0]! <0):S.GI n:=by
 obtain ⟨pq,LO,lI⟩:=h.at
 obtain ⟨ls,jK,hol,gV⟩:=h.OD hn h1 hm
 refine ⟨fun y hy=> ?_,-e0.x,by rw [jK];exact aP _ hol,e0,pq,by omega,lI⟩
 rw [jK] at hy
 rcases av.1 hy with rfl |hy
 ·exact (val_neg h.ok).1 hv
 ·exact gV y hy
end Sv
namespace Sv
structure Mo (S S':Sv):Prop where
 pre:∃Z,S'.R=S.R++Z∧∀e∈Z,e.r≠0
 lits:∀n,(S'.rc n).lits.Perm (S.rc n).lits
 iY:∀n,(S'.rc n).iY=(S.rc n).iY
theorem Mo.refl (S:Sv):Mo S S:=⟨⟨[],by simp,fun e h=>by cases h⟩,fun n=>dh _,fun n=>rfl⟩
theorem Mo.same {S S':Sv} (h1:S'.T=S.T) (h2:S'.list=S.list):Mo S S':=by
 refine ⟨⟨[],by rw [dp h1];simp,fun e h=>by cases h⟩,fun n=> ?_,fun n=> ?_⟩
 ·unfold rc;rw [h2]
 ·unfold rc;rw [h2]
theorem Mo.trans {S S1 S2:Sv} (h:Mo S S1) (k:Mo S1 S2):Mo S S2:=by
 obtain ⟨Z,hZ,hr⟩:=h.pre
 obtain ⟨Z',hZ',Fe⟩:=k.pre
 refine ⟨⟨Z++Z',by rw [hZ',hZ,js],fun e he=> ?_⟩,fun n=>(k.lits n).trans (h.lits n),fun n=>(k.iY n).trans (h.iY n)⟩
 rcases ag.1 he with h1 |h1
 ·exact hr e h1
 ·exact Fe e h1
theorem Mo.ep (S:Sv) {n:Nat} {l:List Int} (h:l.Perm (S.rc n).lits):Mo S (S.ep n l):=by
 refine ⟨⟨[],by rw [bU];rfl,fun e h=>by cases h⟩,fun j=> ?_,fun j=> ?_⟩
 ·rw [lj]
  split
  ·rename_i e;rw [←e.1];exact h
  ·exact dh _
 ·rw [lj]
  split
  ·rename_i e;rw [←e.1]
  ·rfl
theorem Mo.cG {S:Sv} {m:Nat} (ok:S.Ok m) (n:Nat) (off:Int):Mo S (S.cG n off):=by
 unfold Sv.cG
 split
 ·refine Mo.ep S ?_
  by_cases h:(S.rc n).lits=[]
  ·rw [h];exact dh _
  ·have :=pU ok h
   exact gz (by omega) (by omega)
 ·exact Mo.refl S
theorem Mo.yR (S:Sv) (n:Nat):Mo S (S.di n).1:=by
 unfold Sv.di
 cases hk:S.fV (S.rc n).lits (S.rc n).lits.length 2 with
 |none=>exact Mo.refl S
 |some k=>
  obtain ⟨k1,k2,k3⟩:=rq _ _ _ hk
  exact (Mo.ep S (gz (i:=1) (by omega) k2)).trans (Mo.same rfl rfl)
theorem Mo.put {S:Sv} {m:Nat} (ok:S.Ok m) (x:Int) {r:Int} (hr:r≠0):Mo S (S.put x r):=by
 by_cases hb:S.T.iI x=true
 ·refine ⟨⟨_,ng ok hb,fun e he=>by rw [ah.1 he];exact hr⟩,fun n=>dh _,fun n=>rfl⟩
 ·refine Mo.same ?_ rfl
  unfold Sv.put
  simp only
  rw [if_neg hb]
theorem Mo.visit {S:Sv} {m:Nat} (ok:S.Ok m) (n:Nat) (off:Int):Mo S (S.cY n off).1:=by
 unfold cY
 split
 ·exact Mo.refl S
 ·have h1:=Mo.cG ok n off
  have sl:=Ok.cG ok n off
  generalize S.cG n off=S1 at *
  unfold fI
  simp only
  split
  ·exact h1
  ·split
   ·exact h1.trans (Mo.yR S1 n)
   ·split
    ·exact h1
    ·exact h1.trans (Mo.put sl _ (by omega))
theorem VI.visit {S:Sv} {e0:St} {n:Nat} {r keep:List Nat} (h:S.VI e0 (n::r) keep):
  ((S.cY n (-e0.x)).2.2=true→(S.cY n (-e0.x)).1.VI e0 r (if (S.cY n (-e0.x)).2.1=true then keep++[n] else keep))∧
  ((S.cY n (-e0.x)).2.2=false→(S.cY n (-e0.x)).2.1=true∧(S.cY n (-e0.x)).1.VI e0 (n::r) keep∧(S.cY n (-e0.x)).1.GI n∧((S.cY n (-e0.x)).1.rc n).lits≠[]):=by
 unfold cY
 by_cases hn:(S.rc n).lits.length=0
 ·rw [if_pos hn]
  exact ⟨fun _=>h.dead (aJ hn),fun h=>by cases h⟩
 ·rw [if_neg hn]
  obtain ⟨h1,h2,h3,h4⟩:=h.cG (fun e=>hn (by rw [e];rfl))
  generalize S.cG n (-e0.x)=S1 at *
  unfold fI
  simp only
  by_cases hv:(0:Int)<S1.val (S1.rc n).lits[0]!
  ·rw [if_pos hv]
   exact ⟨fun _=>h1.stay h3 h2 hv,fun h=>by cases h⟩
  ·rw [if_neg hv]
   by_cases hm:(S1.di n).2=true
   ·rw [if_pos hm]
    exact ⟨fun _=>h1.yR h3 h2 hv hm,fun h=>by cases h⟩
   ·rw [if_neg hm]
    by_cases lK:S1.val (S1.rc n).lits[0]! <0
    ·rw [if_pos lK]
     exact ⟨fun h=>(by cases h),fun _=>⟨rfl,h1,h1.cfl h3 h2 hm lK,h3⟩⟩
    ·rw [if_neg lK]
     exact ⟨fun _=>h1.put h3 h2 hm (by omega),fun h=>by cases h⟩
theorem nN (S:Sv) {c:Nat} (l:List Nat) (hc:c<S.watch.length) (j:Nat):(S.cd c l).fH j=if j=c then l else S.fH j:=by
 unfold fH cd
 rw [dT]
 by_cases e:c=j
 ·rw [if_pos ⟨e,hc⟩,if_pos e.symm]
 ·rw [if_neg (fun h=>e h.1),if_neg (fun h=>e h.symm)]
theorem Ih {x:Int} {v:Nat} (h1:1≤tv x) (h2:tv x≤v) (hv:v≤262143):aW (-x)<2*v+2:=by
 unfold tv at h1 h2
 refine gH ?_ ?_
 ·split at h2
  ·omega
  ·split at h2<;>omega
 ·split at h2
  ·omega
  ·split at h2
   ·omega
   ·rename_i e1 e2
    rw [if_neg e1,if_neg e2] at h1
    omega
theorem VI.code {S:Sv} {e0:St} {todo keep:List Nat} (h:S.VI e0 todo keep):aW (-e0.x)<S.watch.length:=by
 have h1:=fm h.ok h.at.1
 rw [h.ok.wl]
 exact Ih h1.1 h1.2.1 h.ok.vl
theorem VI.end_ {S:Sv} {e0:St} {keep:List Nat} (h:S.VI e0 [] keep) (hb:∀n∈keep,n<S.list.length):
  ({ S.cd (aW (-e0.x)) (keep++S.fH (aW (-e0.x))) with head:=S.head+1 }:Sv).Inv:=by
 obtain ⟨pq,LO,lI⟩:=h.at
 have hc:=h.code
 rw [h.IU,bU]
 have o:(S.cd (aW (-e0.x)) keep).Ok 0:=h.ok.cd hc hb (by simp)
 have hw:∀c,(S.cd (aW (-e0.x)) keep).fH c=S.W (-e0.x) (keep++[]) c:=fun c=>by
  rw [nN S keep hc,bU]
  rfl
 have Hj:S.R.take (S.head+1)=S.R.take S.head++[e0]:=by
  rw [List.take_add_one,h.at_]
  rfl
 refine ⟨⟨o.vl,o.tr,o.hi,o.hl,o.ph,o.wl,o.ll,o.wb,o.wt,o.lr,o.ln,o.lb,?_,o.rs⟩,h.kg,h.sS,h.dec,fun e he=> ?_,⟨fun c=> ?_,fun c n hn hl=> ?_,fun n hl=> ?_⟩,fun n hl e he=> ?_⟩
 ·show S.head+1≤S.T.lits.length
  rw [←iT]
  omega
 ·have he:e∈S.R.drop (S.head+1):=he
  refine h.hd e ?_
  rw [List.drop_eq_getElem_cons LO]
  exact aP _ he
 ·exact (hw c)▸h.wi.nd c
 ·exact h.wi.wd c n ((hw c)▸hn) hl
 ·have :=h.wi.wc n hl
  rw [←hw,←hw] at this
  exact this
 ·have he:e∈S.R.take (S.head+1):=he
  rw [Hj] at he
  rcases ag.1 he with h1 |h1
  ·exact h.wt n hl e h1
  ·have hee:=ah.1 h1
   subst hee
   have hwc:=h.wi.wc n hl
   have hk:∀x:Int,n∈S.W (-e.x) (keep++[]) (aW x)→e.x= -x→n∈keep:=fun x hx h2=>by
    rw [show x= -e.x by omega,xf,bU] at hx
    exact hx
   exact ⟨fun h2=>(h.wk n (hk _ hwc.1 h2) hl e aY).1 h2,fun h2=>(h.wk n (hk _ hwc.2 h2) hl e aY).2 h2⟩
theorem VI.stop {S:Sv} {e0:St} {todo keep:List Nat} (h:S.VI e0 todo keep) (hb:∀n∈keep++todo,n<S.list.length):
  (S.cd (aW (-e0.x)) (keep++todo)).Inv:=by
 have hc:=h.code
 have o:(S.cd (aW (-e0.x)) (keep++todo)).Ok 0:=h.ok.cd hc hb (by simp)
 have hw:∀c,(S.cd (aW (-e0.x)) (keep++todo)).fH c=S.W (-e0.x) (keep++todo) c:=fun c=>by
  rw [nN S _ hc]
  rfl
 refine ⟨o,h.kg,h.sS,h.dec,h.hd,⟨fun c=> ?_,fun c n hn hl=> ?_,fun n hl=> ?_⟩,h.wt⟩
 ·exact (hw c)▸h.wi.nd c
 ·exact h.wi.wd c n ((hw c)▸hn) hl
 ·have :=h.wi.wc n hl
  rw [←hw,←hw] at this
  exact this
theorem VI.nP {e0:St}:∀(ws keep:List Nat) (S:Sv),S.VI e0 ws keep→(∀n∈keep++ws,n<S.list.length)→
  Mo S (bS (-e0.x) ws keep S).1∧
  ((bS (-e0.x) ws keep S).2=none→({ (bS (-e0.x) ws keep S).1 with head:=(bS (-e0.x) ws keep S).1.head+1 }:Sv).Inv)∧
  ∀n,(bS (-e0.x) ws keep S).2=some n→(bS (-e0.x) ws keep S).1.Inv∧(bS (-e0.x) ws keep S).1.GI n∧((bS (-e0.x) ws keep S).1.rc n).lits≠[]
 |[],keep,S,h,hb=>by
  simp only [bS]
  exact ⟨Mo.same rfl rfl,fun _=>h.end_ (fun n hn=>hb n (by simpa using hn)),fun n h=>by cases h⟩
 |n::r,keep,S,h,hb=>by
  simp only [bS]
  obtain ⟨v1,v2⟩:=h.visit
  have hmo:=Mo.visit h.ok n (-e0.x)
  have sD:=(Ok.visit (h.ok.less (m':=keep.length+r.length+1) (by simp only [bO];omega)) (hb n (by simp)) (-e0.x)).2.2.1
  generalize S.cY n (-e0.x)=q at *
  obtain ⟨S1,b1,b2⟩:=q
  simp only at v1 v2 hmo sD⊢
  cases b2 with
  |true=>
   rw [if_pos rfl]
   obtain ⟨i1,i2,i3⟩:=VI.nP r _ S1 (v1 rfl) (fun j hj=>by
    rw [sD]
    rcases ag.1 hj with h1 |h1
    ·split at h1
     ·rcases ag.1 h1 with h2 |h2
      ·exact hb j (by simp [h2])
      ·exact hb j (by simp at h2;simp [h2])
     ·exact hb j (by simp [h1])
    ·exact hb j (by simp [h1]))
   exact ⟨hmo.trans i1,i2,i3⟩
  |false=>
   rw [if_neg (by simp)]
   obtain ⟨Bf,k1,k2,k3⟩:=v2 rfl
   subst Bf
   have mg:=k1.stop (fun j hj=>by rw [sD];exact hb j hj)
   refine ⟨hmo.trans (Mo.same rfl rfl),fun h=>(by cases h),fun j hj=> ?_⟩
   simp only [Option.some.injEq] at hj
   subst hj
   have ha:(keep++[n])++r=keep++n::r:=by simp
   rw [if_pos rfl,ha]
   exact ⟨mg,k2,k3⟩
theorem Inv.begin {S:Sv} (h:S.Inv) {e0:St} (h0:S.R[S.head]? =some e0):(S.cd (aW (-e0.x)) []).VI e0 (S.fH (aW (-e0.x))) []:=by
 have hm:e0∈S.R:=List.mem_of_getElem? h0
 have h1:=fm h.ok hm
 have nF:=h.ok.vl
 have hc:aW (-e0.x)<S.watch.length:=by
  rw [h.ok.wl]
  exact Ih h1.1 h1.2.1 nF
 have o:(S.cd (aW (-e0.x)) []).Ok (([]:List Nat).length+(S.fH (aW (-e0.x))).length):=h.ok.cd hc (fun n hn=>by cases hn) (by simp)
 have hw:∀c,(S.cd (aW (-e0.x)) []).W (-e0.x) ([]++S.fH (aW (-e0.x))) c=S.fH c:=fun c=>by
  unfold W
  rw [nN S [] hc]
  by_cases e:c=aW (-e0.x)
  ·rw [if_pos e,e];rfl
  ·rw [if_neg e,if_neg e]
 refine ⟨o,h.kg,h.sS,h.dec,h.hd,h0,?_,⟨fun c=> ?_,fun c n hn hl=> ?_,fun n hl=> ?_⟩,h.wt,fun n hn=>by cases hn⟩
 ·rw [nN S [] hc,if_pos rfl]
 ·rw [hw];exact h.wi.nd c
 ·rw [hw] at hn;exact h.wi.wd c n hn hl
 ·rw [hw,hw];exact h.wi.wc n hl
theorem uC {S:Sv} {m:Nat} (ok:S.Ok m):S.T.lits.length≤S.vars:=by
 have hn:=ok.rep.nd
 have ot:(S.R.map fun e:St=>(tv e.x-1).toNat).Nodup:=by
  unfold List.Nodup at hn⊢
  rw [List.pairwise_map] at hn⊢
  refine List.Pairwise.imp_of_mem ?_ hn
  intro a b ha hb dI e
  have :=fm ok ha
  have :=fm ok hb
  omega
 have :=j9 S.vars _ ot (fun x hx=>by
  rw [az] at hx
  obtain ⟨e,he,rfl⟩:=hx
  have :=fm ok he
  omega)
 rw [←iT]
 simpa using this
theorem ro:∀(f:Nat) (S:Sv),S.Inv→S.vars+1≤f+S.head→(dd f S).1.Inv∧Mo S (dd f S).1∧((dd f S).2=none→(dd f S).1.head=(dd f S).1.T.lits.length)∧∀n,(dd f S).2=some n→(dd f S).1.GI n∧((dd f S).1.rc n).lits≠[]
 |0,S,h,hf=>by
  have h1:=uC h.ok
  have h2:=h.ok.hd
  omega
 |f+1,S,h,hf=>by
  by_cases hh:S.head<S.T.lits.length
  ·rw [wu hh]
   obtain ⟨e0,pq⟩:∃e0,S.R[S.head]? =some e0:=⟨_,af (by rw [iT];exact hh)⟩
   have hx:S.T.lits[S.head]! =e0.x:=by
    have :(S.T.lits)[S.head]? =some e0.x:=by rw [h.ok.rep.lits,aO,pq];rfl
    rw [aa,this]
    rfl
   rw [hx]
   obtain ⟨i1,i2,i3⟩:=VI.nP (S.fH (aW (-e0.x))) [] _ (h.begin pq) (fun n hn=>h.ok.wb (aW (-e0.x)) n ((ag.1 hn).elim (fun h=>by cases h) id))
   have vI:=nY (-e0.x) (S.fH (aW (-e0.x))) [] (S.cd (aW (-e0.x)) [])
   have ZG:=(Ok.nP (-e0.x) (S.fH (aW (-e0.x))) [] _ (h.begin pq).ok (fun n hn=>h.ok.wb _ n hn) (fun n hn=>by cases hn) (h.begin pq).code).2.2.1
   rw [oU] at vI
   have LA:(bS (-e0.x) (S.fH (aW (-e0.x))) [] (S.cd (aW (-e0.x)) [])).1.vars=S.vars:=congrArg (fun x=>x.2.1) vI
   have xT:Mo S (S.cd (aW (-e0.x)) []):=Mo.same rfl rfl
   generalize bS (-e0.x) (S.fH (aW (-e0.x))) [] (S.cd (aW (-e0.x)) [])=q at *
   obtain ⟨S1,o⟩:=q
   simp only at i1 i2 i3 ZG LA⊢
   have ZG:S1.head=S.head:=ZG
   cases o with
   |some n=>
    rw [if_pos (show (some n).isSome=true from rfl)]
    obtain ⟨k1,k2,k3⟩:=i3 n rfl
    refine ⟨k1,xT.trans i1,fun h=>(by cases h),fun j hj=> ?_⟩
    simp only [Option.some.injEq] at hj
    subst hj
    exact ⟨k2,k3⟩
   |none=>
    rw [if_neg (show ¬(none:Option Nat).isSome=true by simp)]
    obtain ⟨k1,k2,k3,k4⟩:=ro f { S1 with head:=S1.head+1 } (i2 rfl) (by show S1.vars+1≤f+(S1.head+1);omega)
    exact ⟨k1,(xT.trans i1).trans ((Mo.same rfl rfl :Mo S1 { S1 with head:=S1.head+1 }).trans k2),k3,k4⟩
  ·rw [mU hh]
   have :=h.ok.hd
   exact ⟨h,Mo.refl S,fun _=>by show S.head=S.T.lits.length;omega,fun n h=>by cases h⟩
theorem tt {S:Sv} (h:S.Inv):S.follow.1.Inv∧Mo S S.follow.1∧(S.follow.2=none→S.follow.1.head=S.follow.1.T.lits.length)∧∀n,S.follow.2=some n→S.follow.1.GI n∧(S.follow.1.rc n).lits≠[]:=
 ro _ S h (by omega)
end Sv
theorem wN (m:Int):∀{R:List St},R.Pairwise (fun a b:St=>a.l≤b.l)→∃B,R=R.filter (fun e:St=>decide (e.l≤m))++B∧∀e∈B,m<e.l
 |[],_=>⟨[],rfl,fun e h=>by cases h⟩
 |e::R,h=>by
  rw [List.pairwise_cons] at h
  by_cases he:e.l≤m
  ·obtain ⟨B,h1,h2⟩:=wN m h.2
   refine ⟨B,?_,h2⟩
   rw [List.filter_cons,if_pos (by simpa using he),List.cons_append,←h1]
  ·have gV:∀e'∈R,m<e'.l:=fun e' dZ=>by have :=h.1 e' dZ;omega
   have :R.filter (fun e:St=>decide (e.l≤m))=[]:=by
    rw [List.filter_eq_nil_iff]
    intro e' dZ
    have :=gV e' dZ
    simp
    omega
   refine ⟨e::R,?_,fun e' dZ=> ?_⟩
   ·rw [List.filter_cons,if_neg (by simpa using he),this]
    rfl
   ·rcases av.1 dZ with rfl |dZ
    ·omega
    ·exact gV e' dZ
namespace Sv
theorem jn {S S':Sv} (h:S'.list=S.list) (n:Nat):S'.rc n=S.rc n:=by unfold rc;rw [h]
theorem nO {S S':Sv} (h:S'.watch=S.watch) (c:Nat):S'.fH c=S.fH c:=by unfold fH;rw [h]
theorem Inv.congr {S S':Sv} (h:S.Inv) (ok:S'.Ok 0) (hT:S'.T=S.T) (hh:S'.head=S.head) (hl:∀n,(S'.rc n).lits=(S.rc n).lits) (hw:S'.watch=S.watch):S'.Inv:=by
 have hR:=dp hT
 refine ⟨ok,fun n=>by rw [hl];exact h.kg n,fun A e B h1 h2=> ?_,fun A e B h1 h2=>h.dec A e B (hR▸h1) h2,fun e he=> ?_,⟨fun c=>by rw [nO hw];exact h.wi.nd c,fun c n hn jM=> ?_,fun n jM=> ?_⟩,fun n jM e he=> ?_⟩
 ·obtain ⟨n,h3,ls,h4,h5⟩:=h.sS A e B (hR▸h1) h2
  exact ⟨n,h3,ls,(hl n).trans h4,h5⟩
 ·rw [hR,hh] at he
  rw [hT]
  exact h.hd e he
 ·rw [hl] at jM⊢
  rw [nO hw] at hn
  exact h.wi.wd c n hn jM
 ·rw [hl] at jM⊢
  rw [nO hw,nO hw]
  exact h.wi.wc n jM
 ·rw [hl] at jM⊢
  rw [hR,hh] at he
  rw [hR]
  exact h.wt n jM e he
theorem tA (level:Int):∀(r:List Int) (S:Sv),(dM level r S).watch=S.watch
 |[],S=>rfl
 |l::r,S=>by
  rw [dM]
  split
  ·rfl
  ·exact tA level r _
theorem fj {S:Sv} {m:Nat} (ok:S.Ok m) {level:Nat} (hl:level<S.T.levels.length):
  (S.back level).list=S.list∧(S.back level).watch=S.watch∧(S.back level).T.levels.length=level∧(S.back level).head=min S.head (S.back level).R.length∧∃B,S.R=(S.back level).R++B∧(∀e∈B,(level:Int)<e.l)∧∀e∈(S.back level).R,e.l≤(level:Int):=by
 obtain ⟨B,h1,h2⟩:=wN (level:Int) ok.rep.sorted
 have hR:=WL ok level hl
 have hd:=(ok.rep.back level hl).dep
 obtain ⟨g1,g2,g3,g4,g5⟩:=jl (level:Int) S.T.lits.reverse S m ok
 have hw:=tA (level:Int) S.T.lits.reverse S
 have hbT:(S.back level).T=S.T.cV level:=by
  unfold back
  rw [if_neg (by omega)]
  simp only
  rw [g2]
 refine ⟨?_,?_,by rw [hbT];exact hd,?_,B,by rw [hR];exact h1,h2,fun e he=> ?_⟩
 ·unfold back
  rw [if_neg (by omega)]
  exact g5
 ·unfold back
  rw [if_neg (by omega)]
  exact hw
 ·rw [iT,hbT]
  unfold back
  rw [if_neg (by omega)]
  simp only
  rw [g2,g3]
 ·rw [hR] at he
  have :=(cq.1 he).2
  simpa using this
theorem Inv.back {S:Sv} (h:S.Inv) (level:Nat):(S.back level).Inv:=by
 by_cases hl:level<S.T.levels.length
 ·obtain ⟨h1,h2,h3,h4,B,h5,h6,h7⟩:=fj h.ok hl
  have ed:=jn h1
  have XN:=nO h2
  have ke:∀e∈(S.back level).R,e∈S.R:=fun e he=>by rw [h5];exact ak _ he
  have RY:∀e∈S.R,e.l≤(level:Int)→e∈(S.back level).R:=fun e he hle=>by
   rw [h5] at he
   rcases ag.1 he with h8 |h8
   ·exact h8
   ·have :=h6 e h8;omega
  refine ⟨(h.ok.back level).1,fun n=>by rw [ed];exact h.kg n,fun A e B1 k1 k2=> ?_,fun A e B1 k1 k2=>h.dec A e (B1++B) (by rw [h5,k1];simp) k2,fun e he=> ?_,⟨fun c=>by rw [XN];exact h.wi.nd c,fun c n hn jM=> ?_,fun n jM=> ?_⟩,fun n jM e he=> ?_⟩
  ·obtain ⟨n,k3,ls,k4,k5⟩:=h.sS A e (B1++B) (by rw [h5,k1];simp) k2
   exact ⟨n,k3,ls,by rw [ed];exact k4,k5⟩
  ·exfalso
   rw [h4] at he
   have hle:=h7 e (List.mem_of_mem_drop he)
   by_cases hq:S.head≤(S.back level).R.length
   ·rw [Nat.min_eq_left hq] at he
    have :=h.hd e (by rw [h5,List.drop_append_of_le_length hq];exact ak _ he)
    omega
   ·rw [Nat.min_eq_right (by omega),List.drop_length] at he
    cases he
  ·rw [ed] at jM⊢
   rw [XN] at hn
   exact h.wi.wd c n hn jM
  ·rw [ed] at jM⊢
   rw [XN,XN]
   exact h.wi.wc n jM
  ·rw [ed] at jM⊢
   have hm:e∈(S.back level).R:=List.mem_of_mem_take he
   have hle:=h7 e hm
   have ht:e∈S.R.take S.head:=by
    rw [h4] at he
    rw [h5]
    have h8:((S.back level).R.take (min S.head (S.back level).R.length))=((S.back level).R++B).take (min S.head (S.back level).R.length):=(mB (Nat.min_le_right _ _)).symm
    rw [h8] at he
    exact List.take_subset_take_left _ (Nat.min_le_left _ _) he
   obtain ⟨k1,k2⟩:=h.wt n jM e ht
   refine ⟨fun hx=> ?_,fun hx=> ?_⟩
   ·obtain ⟨e',k3,k4,k5⟩:=k1 hx
    exact ⟨e',RY e' k3 (by omega),k4,k5⟩
   ·obtain ⟨e',k3,k4,k5⟩:=k2 hx
    exact ⟨e',RY e' k3 (by omega),k4,k5⟩
 ·have :S.back level=S:=by
   unfold Sv.back
   rw [if_pos (by omega)]
  rw [this]
  exact h
structure Kz (S:Sv) (x:Nat):Prop where
 ok:S.Ok 0
 kg:∀n,((S.rc n).lits.map tv).Nodup
 sS:S.Rsn
 dec:S.Dec
 hd:S.Hd
 wi:S.WI S.fH
 wt:∀n,n≠x→S.WT1 (S.R.take S.head) n
theorem Inv.but {S:Sv} (h:S.Inv) (x:Nat):S.Kz x:=⟨h.ok,h.kg,h.sS,h.dec,h.hd,h.wi,fun n _=>h.wt n⟩
theorem BV {S:Sv} {x:Nat} (h:S.Kz x) {y r:Int} (hb:S.T.iI y=true) (hr:0≤r∧r≤S.list.length)
  (h1:r≠0→∃n:Nat,r=(n:Int)+1∧∃ls,(S.rc n).lits=y::ls∧∀z∈ls,∃e'∈S.R,e'.x= -z)
  (h2:r=0→S.T.levels.length=0∨∀e∈S.R,e.l<S.T.levels.length):(S.put y r).Kz x∧(S.put y r).R=S.R++[⟨y,S.T.levels.length,r⟩]∧(S.put y r).R.take (S.put y r).head=S.R.take S.head:=by
 have hR:=ng (r:=r) h.ok hb
 have okP:=Ok.put h.ok (x:=y) (r:=r) hr
 have hle:(S.put y r).T.levels=S.T.levels:=dF S y r
 have LO:S.head≤S.R.length:=by rw [iT];exact h.ok.hd
 have ke:∀e∈S.R,e∈(S.put y r).R:=fun e he=>by rw [hR];exact ak _ he
 have Hj:(S.put y r).R.take (S.put y r).head=S.R.take S.head:=by
  show (S.put y r).R.take S.head=_
  rw [hR,mB LO]
 refine ⟨⟨okP,h.kg,?_,?_,?_,⟨h.wi.nd,h.wi.wd,h.wi.wc⟩,fun j hj hl e he=> ?_⟩,hR,Hj⟩
 ·intro A e B Bg hr
  rw [hR] at Bg
  rcases mJ Bg.symm with ⟨h3,h4,h5⟩ |⟨B',h3,h4⟩
  ·subst h4
   rw [h5] at hr⊢
   exact h1 hr
  ·exact h.sS A e B' h4 hr
 ·intro A e B Bg hr
  rw [hR] at Bg
  rcases mJ Bg.symm with ⟨h3,h4,h5⟩ |⟨B',h3,h4⟩
  ·subst h4
   rw [h5] at hr⊢
   rcases h2 hr with h6 |h6
   ·left
    show ((S.T.levels.length:Nat):Int)=0
    rw [h6]
    rfl
   ·exact .inr h6
  ·exact h.dec A e B' h4 hr
 ·intro e he
  have he:e∈(S.put y r).R.drop S.head:=he
  rw [hle]
  rw [hR,List.drop_append_of_le_length LO] at he
  rcases ag.1 he with h3 |h3
  ·exact h.hd e h3
  ·rw [ah.1 h3]
 ·rw [Hj] at he
  obtain ⟨h3,h4⟩:=h.wt j hj hl e he
  refine ⟨fun h5=> ?_,fun h5=> ?_⟩
  ·obtain ⟨e',dZ,h6⟩:=h3 h5
   exact ⟨e',ke e' dZ,h6⟩
  ·obtain ⟨e',dZ,h6⟩:=h4 h5
   exact ⟨e',ke e' dZ,h6⟩
theorem Kz.whole {S:Sv} {x:Nat} (h:S.Kz x) (h1:S.WT1 (S.R.take S.head) x):S.Inv:=
 ⟨h.ok,h.kg,h.sS,h.dec,h.hd,h.wi,fun n=>by
  by_cases e:n=x
  ·rw [e];exact h1
  ·exact h.wt n e⟩
theorem iE {S:Sv} {m:Nat} (ok:S.Ok m) {x:Int} (h:S.val x=0):∀e∈S.R,e.x≠x∧e.x≠ -x:=fun e he=>by
 constructor
 ·intro hx
  have :=(fu ok x).2 ⟨e,he,hx⟩
  omega
 ·intro hx
  have :=(val_neg ok).2 ⟨e,he,hx⟩
  omega
theorem Inv.put {S:Sv} (h:S.Inv) {y r:Int} (hb:S.T.iI y=true) (hr:0≤r∧r≤S.list.length)
  (h1:r≠0→∃n:Nat,r=(n:Int)+1∧∃ls,(S.rc n).lits=y::ls∧∀z∈ls,∃e'∈S.R,e'.x= -z)
  (h2:r=0→S.T.levels.length=0∨∀e∈S.R,e.l<S.T.levels.length):(S.put y r).Inv∧(S.put y r).R=S.R++[⟨y,S.T.levels.length,r⟩]:=by
 obtain ⟨k1,k2,k3⟩:=BV (h.but S.list.length) hb hr h1 h2
 refine ⟨k1.whole ?_,k2⟩
 intro hl
 exact absurd (show (S.rc S.list.length).lits=[] by rw [mL (au _)]) hl
theorem vo (S:Sv) (l:List Int) (b:Bool) (c:Nat):(S.ii l b).fH c=S.fH c:=rfl
theorem Bs (S:Sv) {c n:Nat} (hc:c<S.watch.length) (j:Nat):(S.gP c n).fH j=if j=c then S.fH c++[n] else S.fH j:=nN S _ hc j
theorem Inv.attach {S:Sv} (h:S.Inv) {l:List Int} (hf:S.Fits l) (hd:(l.map tv).Nodup) (b:Bool) (hr:S.list.length<2199023255552):
  (S.attach l b).Kz S.list.length∧(S.attach l b).rc S.list.length=⟨l,b,S.used⟩∧∀n,n≠S.list.length→(S.attach l b).rc n=S.rc n:=by
 have h2:=hf.two
 have ok:=h.ok.attach hf b hr
 have l0:=hf.lit _ (get_mem (l:=l) (i:=0) (by omega))
 have l1:=hf.lit _ (get_mem (l:=l) (i:=1) (by omega))
 have ed:∀n,(S.attach l b).rc n=if n=S.list.length then ⟨l,b,S.used⟩ else S.rc n:=fun n=>uy S l b n
 have hc0:aW l[0]! <S.watch.length:=by rw [h.ok.wl];exact gH l0.2.1 l0.2.2
 have vU:aW l[1]! <S.watch.length:=by rw [h.ok.wl];exact gH l1.2.1 l1.2.2
 have h01:aW l[0]! ≠aW l[1]! :=fun e=>by
  have :=rm hd (by omega:0<_) (by omega:1<_) (by omega)
  rw [jc e] at this
  exact this rfl
 have vH:∀c,(S.attach l b).fH c=if c=aW l[0]! ∨c=aW l[1]! then S.fH c++[S.list.length] else S.fH c:=fun c=>by
  show (((S.ii l b).gP (aW l[0]!) S.list.length).gP (aW l[1]!) S.list.length).fH c=_
  have hq:=fun j=>Bs (S.ii l b) (c:=aW l[0]!) (n:=S.list.length) hc0 j
  rw [Bs _ (by show _<(S.watch.set _ _).length;rw [aw];exact vU),hq,hq,vo,vo,vo]
  by_cases e1:c=aW l[1]!
  ·rw [if_pos e1,if_neg (fun e=>h01 e.symm),if_pos (.inr e1),e1]
  ·rw [if_neg e1]
   by_cases e0:c=aW l[0]!
   ·rw [if_pos e0,if_pos (.inl e0),e0]
   ·rw [if_neg e0,if_neg (fun e=>e.elim e0 e1)]
 have jf:(S.attach l b).rc S.list.length=⟨l,b,S.used⟩:=by rw [ed,if_pos rfl]
 have hold:∀n,n≠S.list.length→(S.attach l b).rc n=S.rc n:=fun n hn=>by rw [ed,if_neg hn]
 have Ry:∀n,(S.rc n).lits≠[]→n≠S.list.length:=fun n hn e=>by
  have :=lx hn
  omega
 refine ⟨⟨ok,fun n=> ?_,fun A e B k1 k2=> ?_,h.dec,h.hd,⟨fun c=> ?_,fun c n hn hl=> ?_,fun n hl=> ?_⟩,fun n hn hl e he=> ?_⟩,jf,hold⟩
 ·by_cases e:n=S.list.length
  ·rw [e,jf];exact hd
  ·rw [hold n e];exact h.kg n
 ·obtain ⟨n,k3,ls,k4,k5⟩:=h.sS A e B k1 k2
  exact ⟨n,k3,ls,by rw [hold n (Ry n (by rw [k4];simp))];exact k4,k5⟩
 ·rw [vH]
  have :=h.wi.nd c
  split
  ·rw [List.nodup_append]
   refine ⟨this,by simp,fun a ha b' hb'=> ?_⟩
   rw [ah.1 hb']
   have :=h.ok.wb c a ha
   omega
  ·exact this
 ·rw [vH] at hn
  by_cases e:n=S.list.length
  ·rw [e,jf]
   split at hn
   ·rename_i hc
    exact hc.imp Eq.symm Eq.symm
   ·have :=h.ok.wb c n hn
    omega
  ·rw [hold n e] at hl⊢
   refine h.wi.wd c n ?_ hl
   split at hn
   ·rcases ag.1 hn with h3 |h3
    ·exact h3
    ·exact absurd (ah.1 h3) e
   ·exact hn
 ·by_cases e:n=S.list.length
  ·rw [e,jf]
   rw [vH,vH,if_pos (.inl rfl),if_pos (.inr rfl)]
   exact ⟨by simp,by simp⟩
  ·rw [hold n e] at hl⊢
   have hq:=h.wi.wc n hl
   have xz:∀c,n∈S.fH c→n∈(S.attach l b).fH c:=fun c hc=>by
    rw [vH]
    split
    ·exact ak _ hc
    ·exact hc
   exact ⟨xz _ hq.1,xz _ hq.2⟩
 ·rw [hold n hn] at hl⊢
  exact h.wt n hl e he
end Sv
theorem pw {x:Int} {v:Nat} (h0:x≠0) (h1: -(v:Int)≤x) (h2:x≤v) (hv:v≤262143):1≤tv x∧tv x≤v:=by
 unfold tv
 split
 ·omega
 ·split<;>omega
namespace Sv
structure Nu (S S2:Sv):Prop where
 vars:S2.vars=S.vars
 Zf:S.list.length≤S2.list.length
 Ts:S2.list.length≤S.list.length+1
 used:S2.used=S.used
 bump:S2.bump≤1073741824
 MW:S.many≤S2.many
 many1:S2.many≤S.many+1
 bP:S2.bP=S.bP
 core:S2.core=S.core
 cj:S2.T.levels.length≤S.T.levels.length
 bad:S2.bad=S.bad
theorem EL {B:Sv} (h:B.Inv) {l:List Int} (hr:B.list.length<2199023255552) (l0:0<l.length) (l1:l.length≤1048576) (hl:∀x∈l,x≠0∧ -(B.vars:Int)≤x∧x≤B.vars) (tU:(l.map tv).Nodup)
  (hv:B.val l[0]! =0) (ke:∀k,1≤k→k<l.length→∃e∈B.R,e.x= -l[k]!) (h1:l.length=1→B.T.levels.length=0) (h2:2≤l.length→∃e∈B.R,e.x= -l[1]! ∧e.l=B.T.levels.length):(B.bt l).Inv:=by
 have rS:=hl _ (get_mem (l:=l) (i:=0) l0)
 have ht:=pw rS.1 rS.2.1 rS.2.2 h.ok.vl
 unfold bt
 by_cases e1:l.length=1
 ·rw [if_pos e1]
  exact (h.put (r:=0) (iH h.ok ht.1 ht.2 hv) (by omega) (fun h=>absurd rfl h) (fun _=> .inl (h1 e1))).1
 ·rw [if_neg e1]
  obtain ⟨k1,k2,k3⟩:=h.attach (l:=l) ⟨by omega,l1,hl⟩ tU true hr
  have hs:=ch B l true
  have hb:(B.attach l true).T.iI l[0]! =true:=by
   rw [hs.1]
   exact iH h.ok ht.1 ht.2 hv
  have hRa:(B.attach l true).R=B.R:=dp hs.1
  obtain ⟨y,ls,jK⟩:∃y ls,l=y::ls:=by
   cases l with
   |nil=>simp at l0
   |cons y ls=>exact ⟨y,ls,rfl⟩
  have hy:l[0]! =y:=by rw [jK];rfl
  obtain ⟨p1,p2,p3⟩:=BV k1 (r:=(B.list.length:Int)+1) hb (by rw [hs.2.2.1];omega) (fun _=>⟨B.list.length,rfl,ls,by rw [k2,hy];exact jK,fun z hz=>by
   obtain ⟨i,hi,hg⟩:=List.getElem_of_mem hz
   obtain ⟨e,he,hx⟩:=ke (i+1) (by omega) (by rw [jK];simp;omega)
   refine ⟨e,by rw [hRa];exact he,?_⟩
   rw [hx,jK,kU (by simp;omega)]
   simp [hg]⟩) (fun e=>by omega)
  have hI:((B.attach l true).put l[0]! ((B.list.length:Int)+1)).Inv:=by
   refine p1.whole ?_
   intro dI e he
   have ed:((B.attach l true).put l[0]! ((B.list.length:Int)+1)).rc B.list.length=⟨l,true,B.used⟩:=k2
   rw [ed]
   rw [p3,hRa] at he
   have RR:e∈B.R:=List.mem_of_mem_take he
   have QX:=iE h.ok hv e RR
   refine ⟨fun hx=>absurd hx QX.2,fun hx=> ?_⟩
   obtain ⟨e2,jp,ix,jM⟩:=h2 (by omega)
   have hee:e=e2:=jm h.ok RR jp (by
    have hx:e.x= -l[1]! :=hx
    rw [hx,ix])
   refine ⟨⟨l[0]!,(B.attach l true).T.levels.length,(B.list.length:Int)+1⟩,by rw [p2];simp,rfl,?_⟩
   show ((B.attach l true).T.levels.length:Int)≤e.l
   rw [hs.1,hee,jM]
   exact Int.le_refl _
  exact hI.congr (hI.ok.GT _) rfl rfl (fun _=>rfl) rfl
theorem I7 (B:Sv) (l:List Int):Nu B (B.bt l).bX:=by
 have hm:(B.bt l).bX.bump≤1073741824:=Nat.min_le_right _ _
 by_cases e1:l.length=1
 ·have e:(B.bt l)=B.put l[0]! 0:=by unfold bt;rw [if_pos e1]
  rw [e] at hm⊢
  exact ⟨rfl,au _,by show B.list.length≤_;omega,rfl,hm,Int.le_refl _,by show B.many≤_;omega,rfl,rfl,by show (B.put l[0]! 0).T.levels.length≤_;rw [dF];exact au _,rfl⟩
 ·have e:(B.bt l)={ ((B.attach l true).put l[0]! (B.list.length+1)) with many:=B.many+1 }:=by unfold bt;rw [if_neg e1]
  have hs:=ch B l true
  rw [e] at hm⊢
  exact ⟨rfl,by show B.list.length≤(B.attach l true).list.length;omega,by show (B.attach l true).list.length≤_;omega,rfl,hm,by show B.many≤B.many+1;omega,Int.le_refl _,rfl,rfl,by show ((B.attach l true).put l[0]! _).T.levels.length≤_;rw [dF,hs.1];exact au _,rfl⟩
theorem ya {S:Sv} (h:S.Inv) {n:Nat} (hc:S.GI n) (hn:(S.rc n).lits≠[]) (hr:S.list.length<2199023255552) (hd:0<S.T.levels.length):
  ∃S2 l cj,S.Lrd l cj∧S.conflict n=some (S2,true)∧S2.Inv∧Nu S S2∧∃S1:Sv,S1.jP=S.jP∧S2=((S1.back cj.toNat).bt l).bX:=by
 obtain ⟨S1,l,cj,h1,h2,h3⟩:=iM h.ok h.sS h.dec hc hd hn
 obtain ⟨sl,eT,eV,eL,eU,f0,f1,f2,f3,f4⟩:=fR h.ok h1
 have uK:S1.Inv:=h.congr sl eT (congrArg (fun x=>x.2.2.2.2.2.2.1) h2) (fun j=>(j7 h2 j).1) (congrArg (fun x=>x.2.2.1) h2)
 have T5:S1.R=S.R:=dp eT
 have bM:=h3.lt
 have lI:cj.toNat<S1.T.levels.length:=by rw [eT];omega
 obtain ⟨b1,b2,b3,b4,BB,b5,b6,b7⟩:=fj uK.ok lI
 have aji:((cj.toNat:Nat):Int)=cj:=by omega
 have Wf:=(uK.ok.back cj.toNat).2.1
 have Ia:=uK.back cj.toNat
 have RY:∀e∈S.R,e.l≤cj→e∈(S1.back cj.toNat).R:=fun e he hle=>by
  rw [←T5,b5] at he
  rcases ag.1 he with h8 |h8
  ·exact h8
  ·have :=b6 e h8;omega
 have ke:∀e∈(S1.back cj.toNat).R,e∈S.R:=fun e he=>by rw [←T5,b5];exact ak _ he
 obtain ⟨et,het,tY,JT⟩:=h3.top
 have hIL:((S1.back cj.toNat).bt l).Inv:=by
  refine EL Ia (by rw [b1,eL];exact hr) f0 f1 (by rw [Wf,eV];exact f2) h3.nd ?_ (fun k k1 k2=> ?_) (fun k1=>by rw [b3,h3.one k1];rfl) (fun k2=> ?_)
  ·rcases gx Ia.ok l[0]! with h5 |h5 |h5
   ·exact h5
   ·exfalso
    obtain ⟨e,he,hx⟩:=(fu Ia.ok l[0]!).1 (by omega)
    exact iJ h.ok (ke e he) het (by rw [hx,tY])
   ·exfalso
    obtain ⟨e,he,hx⟩:=(val_neg Ia.ok).1 (by omega:(S1.back cj.toNat).val l[0]! <0)
    have np:e.x=et.x:=by rw [hx,tY];omega
    have :=jm h.ok (ke e he) het (by rw [np])
    have :=b7 e he
    subst_vars
    omega
  ·obtain ⟨e,he,hx,_,hle⟩:=h3.tail k k1 k2
   exact ⟨e,RY e he hle,hx⟩
  ·obtain ⟨e,he,hx,hle⟩:=h3.two k2
   exact ⟨e,RY e he (by omega),hx,by rw [b3];omega⟩
 refine ⟨((S1.back cj.toNat).bt l).bX,l,cj,h3,?_,hIL.congr hIL.ok.bX rfl rfl (fun _=>rfl) rfl,?_,S1,h2,rfl⟩
 ·unfold conflict
  rw [if_neg (by omega),h1]
 ·have Hq:=I7 (S1.back cj.toNat) l
  have RX:=jk S1 cj.toNat
  have i8:S1.many=S.many:=congrArg (fun x=>x.2.2.2.2.2.2.2.2.2.1) h2
  have pn:S1.bP=S.bP:=congrArg (fun x=>x.2.2.2.2.2.2.2.2.2.2.1) h2
  have gI:S1.core=S.core:=congrArg (fun x=>x.2.2.2.2.2.1) h2
  have Og:S1.bad=S.bad:=congrArg (fun x=>x.2.2.2.2.2.2.2.2.2.2.2.1) h2
  have TR:=Hq.Zf
  have oZ:=Hq.Ts
  have xT:=Hq.MW
  have vO:=Hq.many1
  have Rw:=Hq.cj
  rw [b1,eL] at TR oZ
  rw [RX.2.2.1,i8] at xT vO
  have aai:=RX.2.2.2.2.2.1
  rw [eT] at aai
  exact ⟨Hq.vars.trans (Wf.trans eV),TR,oZ,Hq.used.trans (RX.2.1.trans eU),Hq.bump,xT,vO,Hq.bP.trans (RX.2.2.2.1.trans pn),Hq.core.trans (RX.1.trans gI),aF Rw aai,Hq.bad.trans (RX.2.2.2.2.1.trans Og)⟩
theorem GL {S:Sv} {m:Nat} (ok:S.Ok m) {x:Int} (h:S.val x=0):S.val (-x)=0:=by
 rcases gx ok (-x) with h1 |h1 |h1
 ·exact h1
 ·exfalso
  obtain ⟨e,he,hx⟩:=(fu ok (-x)).1 (by omega)
  exact (iE ok h e he).2 hx
 ·exfalso
  obtain ⟨e,he,hx⟩:=(val_neg ok).1 (by omega:S.val (-x)<0)
  exact (iE ok h e he).1 (by omega)
theorem sh {S0:Sv} {m:Nat} (ok:S0.Ok m):∀(f:Nat) (S:Sv),S.T=S0.T→(cI f S).2≠0→S0.val (cI f S).2=0
 |0,S,hT,h=>absurd rfl h
 |f+1,S,hT,h=>by
  rw [cI] at h⊢
  split at h
  ·exact absurd rfl h
  ·rename_i hi
   rw [if_neg hi]
   simp only at h⊢
   split at h
   ·rename_i hv
    rw [if_pos hv]
    exact sh ok f _ hT h
   ·rename_i hv
    rw [if_neg hv]
    have h0:S0.val (S.H.it 0)=0:=by
     have :({ S with H:=S.H.jS }:Sv).val (S.H.it 0)=S0.val (S.H.it 0):=by unfold val;rw [show ({ S with H:=S.H.jS }:Sv).T=S0.T from hT]
     rw [←this]
     exact jF fun e=>hv e
    simp only
    split
    ·exact h0
    ·exact GL ok h0
theorem Inv.deep {S:Sv} (h:S.Inv) (hf:S.head=S.T.lits.length):S.deep.Inv:=by
 have hR:=qp h.ok
 refine ⟨h.ok.deep,h.kg,fun A e B h1 h2=>h.sS A e B (hR▸h1) h2,fun A e B h1 h2=>h.dec A e B (hR▸h1) h2,fun e he=> ?_,⟨h.wi.nd,h.wi.wd,h.wi.wc⟩,h.wt⟩
 exfalso
 rw [hR] at he
 have he:e∈S.R.drop S.head:=he
 rw [hf,←iT,List.drop_length] at he
 cases he
theorem Inv.choice {S:Sv} (h:S.Inv) (hf:S.head=S.T.lits.length) {x:Int} (h0:x≠0) (h1: -(S.vars:Int)≤x) (h2:x≤S.vars) (hv:S.val x=0):(S.deep.put x 0).Inv∧(S.deep.put x 0).R=S.R++[⟨x,(S.T.levels.length+1:Nat),0⟩]:=by
 have ht:=pw h0 h1 h2 h.ok.vl
 have hb:S.deep.T.iI x=true:=iH (S:=S.deep) h.ok.deep ht.1 ht.2 hv
 have hR:=qp h.ok
 obtain ⟨k1,k2⟩:=(h.deep hf).put (r:=0) hb ⟨Int.le_refl _,by omega⟩ (fun h=>absurd rfl h) (fun _=> .inr fun e he=>by
  rw [hR] at he
  have :=(fm h.ok he).2.2.2
  rw [dG]
  omega)
 rw [dG,hR] at k2
 exact ⟨k1,k2⟩
theorem choose_spec {S:Sv} (h:S.Inv) (hf:S.head=S.T.lits.length):S.choose.1.Inv∧(S.choose.2=0→S.choose.1.T.lits.length=S.T.lits.length+1):=by
 obtain ⟨p1,p2,p3,p4,p5,p6,p7⟩:=h.ok.pick
 have hw:S.pick.1.watch=S.watch:=by
  have :∀(f:Nat) (S:Sv),(cI f S).1.watch=S.watch:=by
   intro f
   induction f with
   |zero=>intro S;rfl
   |succ f ih=>
    intro S
    rw [cI]
    split
    ·rfl
    ·simp only
     split
     ·exact ih _
     ·rfl
  exact this _ S
 have hI:S.pick.1.Inv:=h.congr p1 p2 p5 (fun n=>by rw [jn p4]) hw
 unfold choose
 by_cases h0:S.pick.2=0
 ·rw [if_pos h0]
  exact ⟨hI.congr hI.ok.keep rfl rfl (fun _=>rfl) rfl,fun h=>by cases h⟩
 ·rw [if_neg h0]
  have hv:=sh h.ok _ S rfl h0
  obtain ⟨k1,k2⟩:=hI.choice (by rw [p2,p5];exact hf) h0 (by rw [p3];exact p6) (by rw [p3];exact p7) (by unfold val;rw [p2];exact hv)
  refine ⟨k1,fun _=> ?_⟩
  rw [←iT,k2,ai,iT,p2]
  rfl
theorem rz {us:List Int}:∀(f:Nat) (S:Sv),S.Inv→S.head=S.T.lits.length→(∀x∈us,x≠0∧ -(S.vars:Int)≤x∧x≤S.vars)→(bv us f S).1.Inv∧((bv us f S).2=0→(bv us f S).1.T.lits.length=S.T.lits.length+1)
 |0,S,h,hf,hu=>choose_spec h hf
 |f+1,S,h,hf,hu=>by
  rw [bv]
  split
  ·rename_i hd
   have ha:=hu _ (get_mem (l:=us) hd)
   simp only
   split
   ·exact ⟨h.congr (h.ok.oN _) rfl rfl (fun _=>rfl) rfl,fun h=>by cases h⟩
   ·split
    ·rename_i h1 h2
     obtain ⟨k1,k2⟩:=h.choice hf ha.1 ha.2.1 ha.2.2 h2
     refine ⟨k1,fun _=> ?_⟩
     rw [←iT,k2,ai,iT]
     rfl
    ·have :=rz f S.deep (h.deep hf) hf hu
     exact this
  ·exact choose_spec h hf
theorem De {S:Sv} {us:List Int} (h:S.Inv) (hf:S.head=S.T.lits.length) (hu:∀x∈us,x≠0∧ -(S.vars:Int)≤x∧x≤S.vars):(S.aS us).1.Inv∧((S.aS us).2=0→(S.aS us).1.T.lits.length=S.T.lits.length+1):=rz _ S h hf hu
end Sv
theorem IZ (w:World) (a:Int):Calls Tryz.prog 131 #[.int .i64 a] w fun e w'=>e= .returned (.bool false)∧w=w':=by
 have h:(a !=a)=false:=by simp
 go_enter Tryz.func131,Tryz.ntmps131
 go_wp2
 go_ret
 exact ⟨by simp,rfl⟩
def ji (a b:Int):Int:=if a<b then -1 else if b<a then 1 else 0
theorem yd (w:World) (a b:Int):Calls Tryz.prog 106 #[.int .i64 a, .int .i64 b] w fun e w'=>e= .returned (.int .i64 (ji a b))∧w=w':=by
 have KN:=ae (fun x=>IZ w x)
 have hK:al (∀s,ji a b=s→Ending.returned (.int .i64 s)= .returned (.int .i64 (ji a b))):=fun s h=>by rw [h]
 go_enter Tryz.func106,Tryz.ntmps106
 go_wp2_with fail
 refine (KN.o _).mono ?_
 rintro e w1 ⟨rfl,rfl⟩
 go_wp2_with fail
 refine (KN.o _).mono ?_
 rintro e w1 ⟨rfl,rfl⟩
 by_cases h1:a<b
 ·have d1:decide (a<b)=true:=decide_eq_true h1
  have HV:al (ji a b= -1):=(by rw [ji,if_pos h1]:ji a b= -1)
  go_wp2
  go_ret
  exact ⟨hK.o _ HV.o,rfl⟩
 ·have d1:decide (a<b)=false:=decide_eq_false h1
  by_cases h2:b<a
  ·have d2:decide (b<a)=true:=decide_eq_true h2
   have HV:al (ji a b=1):=(by rw [ji,if_neg h1,if_pos h2]:ji a b=1)
   go_wp2
   go_ret
   exact ⟨hK.o _ HV.o,rfl⟩
  ·have d2:decide (b<a)=false:=decide_eq_false h2
   have HV:al (ji a b=0):=(by rw [ji,if_neg h1,if_neg h2]:ji a b=0)
   go_wp2
   go_ret
   exact ⟨hK.o _ HV.o,rfl⟩
def gN (a:Int):Int:=if a<wrap64 (-a) then wrap64 (-a) else a
theorem Gc (w:World) (a:Int):Calls Tryz.prog 42 #[.int .i64 a] w fun e w'=>e= .returned (.int .i64 (gN a))∧w=w':=by
 go_enter Tryz.func42,Tryz.ntmps42
 go_wp2_with fail
 all_goals (go_ret;first |exact ⟨by rw [gN,if_pos (by assumption)];rfl,rfl⟩ |exact ⟨by rw [gN,if_neg (by omega)];rfl,rfl⟩)
def Lr (a b:Int):Int:=if a=0 then b else a
set_option maxHeartbeats 1000000 in
theorem MO (w:World) (g:Nat) (a b:Int) (h0:w.cell? ⟨g,0,none⟩=some (.int .i64 a)) (h1:w.cell? ⟨g,1,none⟩=some (.int .i64 b)):
  Calls Tryz.prog 105 #[.slice (some ⟨g,0,none⟩) 2 2] w fun e w'=>e= .returned (.int .i64 (Lr a b))∧w=w':=by
 have hK:al (∀s,Lr a b=s→Ending.returned (.int .i64 s)= .returned (.int .i64 (Lr a b))):=fun s h=>by rw [h]
 have H0:=ae h0
 have H1:=ae h1
 clear h0 h1
 go_enter Tryz.func105,Tryz.ntmps105
 go_wp2_with fail
 go_loopg [8] 2 (fun gk i wr=>wr=w∧((gk=2∧i= .int .i64 0)∨(gk=1∧i= .int .i64 1∧a=0)∨(gk=0∧i= .int .i64 2∧a=0∧b=0)))
 case atStart=>exact ⟨rfl, .inl ⟨rfl,rfl⟩⟩
 case round=>
  obtain ⟨rfl,hc⟩:=hrel
  rcases hc with ⟨rfl,rfl⟩ |⟨rfl,rfl,rfl⟩ |⟨rfl,rfl,rfl,rfl⟩
  ·have h0:=H0.o
   by_cases ha:a=0
   ·have hb:(a !=0)=false:=by simp [ha]
    go_wp2
    go_roundg 1
    case measure=>decide
    case rel=>exact ⟨rfl, .inr (.inl ⟨rfl,rfl,ha⟩)⟩
   ·have hb:(a !=0)=true:=by simp [ha]
    have HV:al (Lr a b=a):=(by rw [Lr,if_neg ha]:Lr a b=a)
    go_wp2
    go_ret
    exact ⟨hK.o _ HV.o,rfl⟩
  ·have h1:=H1.o
   by_cases ha:b=0
   ·have hb:(b !=0)=false:=by simp [ha]
    go_wp2
    go_roundg 0
    case measure=>decide
    case rel=>exact ⟨rfl, .inr (.inr ⟨by first |rfl |trivial,by first |rfl |trivial,by first |rfl |trivial,ha⟩)⟩
   ·have hb:(b !=0)=true:=by simp [ha]
    have HV:al (Lr 0 b=b):=(by rw [Lr,if_pos rfl]:Lr 0 b=b)
    go_wp2
    go_ret
    exact ⟨hK.o _ HV.o,rfl⟩
  ·go_wp2
   go_ret
   exact ⟨rfl,rfl⟩
def si (a b:Int):Int:=Lr (ji (gN a) (gN b)) (ji a b)
set_option maxHeartbeats 1000000 in
theorem B4 (w:World) (a b:Int):Calls Tryz.prog 80 #[.int .i64 a, .int .i64 b] w fun e w'=>e= .returned (.int .i64 (si a b))∧w'=w.alloc (.cells #[.int .i64 (ji (gN a) (gN b)), .int .i64 (ji a b)] 3):=by
 have KA:=ae (fun x=>Gc w x)
 have KC:=ae (fun x y=>yd w x y)
 have hn:=At.new w 3 #[.int .i64 (ji (gN a) (gN b)), .int .i64 (ji a b)]
 have KO:=ae (MO (w.alloc (.cells #[.int .i64 (ji (gN a) (gN b)), .int .i64 (ji a b)] 3)) w.heap.size (ji (gN a) (gN b)) (ji a b) (by rw [hn.cell];rfl) (by rw [hn.cell];rfl))
 have hK:al (Ending.returned (.int .i64 (Lr (ji (gN a) (gN b)) (ji a b)))= .returned (.int .i64 (si a b))):=rfl
 clear hn
 go_enter Tryz.func80,Tryz.ntmps80
 go_wp2_with fail
 refine (KA.o _).mono ?_
 rintro e w1 ⟨rfl,rfl⟩
 go_wp2_with fail
 refine (KA.o _).mono ?_
 rintro e w1 ⟨rfl,rfl⟩
 go_wp2_with fail
 refine (KC.o _ _).mono ?_
 rintro e w1 ⟨rfl,rfl⟩
 go_wp2_with fail
 refine (KC.o _ _).mono ?_
 rintro e w1 ⟨rfl,rfl⟩
 go_wp2_with fail
 refine KO.o.mono ?_
 rintro e w1 ⟨rfl,rfl⟩
 go_wp2
 go_ret
 exact ⟨hK.o,rfl⟩
end Go.Proofs.YtdgplmgfkliijaaGreat
