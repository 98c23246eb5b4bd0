/- Parts of a proof. -/
import Derived.Test.YtpjbaobgnhjgoaaGreatGAP
set_option linter.unusedVariables false
namespace Go.Proofs.YtpjbaobgnhjgoaaGreat
open Go.RowKit
namespace Sv
theorem tQ{red:Bool}{budget:Int}{us:List Int}{D:Nat}:∀(Q Q':Sv->Int->Prop),(∀S r,Q S r->Q' S r)->∀c next n S,ev red budget us Q D c next n S->ev red budget us Q' D c next n S:=by
 intro Q Q' hQ c;induction c with
 |zero=>intro next n S h;exact h
 |succ c ih=>
  intro next n S hh
  rw[ev]at hh⊢;revert hh;generalize hK:ev red budget us Q D c=K;generalize ab:ev red budget us Q' D c=K';rw[hK,ab]at ih;clear hK ab;generalize D=d;induction d generalizing next n S with
  |zero=>exact fun h=>h
  |succ d ad=>
   intro hh;rw[gN]at hh⊢;obtain⟨m1,m2,m3,m4⟩:=hh;refine⟨m1,m2,m3,?_⟩;cases hf:S.follow.2 with
   |some cc=>
    rw[hf]at m4;simp only at m4⊢;revert m4;cases S.follow.1.cW.conflict cc with
    |none=>exact fun h=>h
    |some q=>
     obtain⟨S2,b⟩:=q;cases b with
     |false=>exact hQ _ _
     |true=>
      show(if _ then _ else _)->(if _ then _ else _);split
      ·exact hQ _ _
      ·exact ih _ _ _
   |none=>
    rw[hf]at m4;simp only at m4⊢;unfold yM at m4⊢;have Ni:∀J:Sv,(if(J.aP us).2=0 then gN red budget us Q K d (if next <=n then n+64 else next) n (J.aP us).1 else Q (J.aP us).1 (J.aP us).2)->(if(J.aP us).2=0 then gN red budget us Q' K' d (if next <=n then n+64 else next) n (J.aP us).1 else Q' (J.aP us).1 (J.aP us).2):=by
     intro J;split
     ·exact ad _ _ _
     ·exact hQ _ _
    by_cases rQ:((S.follow.1.dH n next).cv:Int)<(S.follow.1.dH n next).many
    ·rw[qai rQ]at m4⊢;by_cases rO:red=true
     ·rw[qai rO]at m4⊢;exact fun S' Hv=>Ni _ (m4 S' Hv)
     ·rw[qah rO]at m4;exact absurd m4 id
    ·rw[qah rQ]at m4;rw[qah rQ];exact Ni _ m4
set_option maxRecDepth 100000 in
theorem V3{us:List Int}{F:(Nat->Bool)->Prop}{vars U V c n:Nat}{budget:Int}{K:Nat->Nat->Sv->Prop}(hu:∀y∈us,y≠0/\ -(vars:Int)<=y/\y<=vars)(hU:U<=2199023255000)(hV:V<=1200000000000)(Be:us.length<=1099511627776)(hn:n<2199023255000)(um:n+(c+1)=budget.toNat+2)
  (hK:∀next S,Gx us F vars U V c S->next <=n+64->¬budget<((n+1:Nat):Int)->K next (n+1) S):
  ∀(d next :Nat)(S:Sv),Gx us F vars U V (c+1) S->next <=n+64->mu S next n<d->gN true budget us (Tx us F vars U V) K d next n S:=by
 intro d;induction d with
 |zero=>
  intro next S h hx hm
  exact absurd hm (aD _)
 |succ d ih=>
  intro next S h hx hm
  rw[gN];refine⟨h.small hU hV Be,by omega,by omega,?_⟩;obtain⟨f1,f2,f3,f4⟩:=xa h.inv;have g:=h.follow;have Ct:S.T.lits.length<=S.follow.1.T.lits.length:=by obtain⟨Z,hZ,_⟩:=f2.pre;rw[<-ko,<-ko,hZ];simp
  generalize S.follow=q at *;obtain⟨SF,o⟩:=q;simp only at f1 f2 f3 f4 g Ct⊢;have ad:=h.vars;have ar:=g.vars;cases o with
  |some m=>
   simp only;obtain⟨k1,k2⟩:=f4 m rfl;by_cases hd:SF.T.levels.length=0
   ·obtain⟨z1,z2⟩:=g.aan k1 k2 hd;rw[z1];exact z2
   ·obtain⟨S2,c1,c2⟩:=g.conflict hV k1 k2 (by omega);rw[c1];show if budget<((n+1:Nat):Int)then _ else K next (n+1) S2
    by_cases hb:budget<((n+1:Nat):Int)
    ·rw[qai hb];exact c2.stop
    ·rw[qah hb];exact hK next S2 c2 hx hb
  |none=>
   simp only;obtain⟨r1,r2⟩:=F8 f1 (f3 rfl) n next
   have Fp:Gx us F vars U V (c+1) (SF.dH n next):=by
    unfold Sv.dH;split
    ·exact g.back 0
    ·exact g
   have Cs:¬next <=n->(SF.dH n next).T.lits.length=SF.T.lits.length:=fun Bg=>by unfold Sv.dH;rw[qah Bg]
   generalize SF.dH n next =SR at *
   have fin:∀J:Sv,Gx us F vars U V (c+1) J->J.T=SR.T->J.head=SR.head->(if(J.aP us).2=0 then gN true budget us (Tx us F vars U V) K d (if next <=n then n+64 else next) n (J.aP us).1 else Tx us F vars U V (J.aP us).1 (J.aP us).2):=by
    intro J t1 t4 t5;obtain⟨e1,e2⟩:=t1.decide (by rw[t5,r2,t4]) hu;generalize J.aP us=p at *;by_cases hq:p.2=0
    ·rw[qai hq];obtain⟨e3,e5⟩:=e1 hq;have pJ:=Ea e3.inv.ok;have oy:=e3.vars;refine ih _ p.1 e3 (by split<;>omega) ?_;rw[t4]at e5;unfold mu at hm⊢;by_cases AG:next <=n
     ·rw[qai AG]at hm⊢;rw[qah (by omega)];omega
     ·rw[qah AG]at hm⊢;rw[qah AG];have :=Cs AG;omega
    ·rw[qah hq];exact e2 hq
   unfold yM;by_cases rQ:(SR.cv:Int)<SR.many
   ·rw[qai rQ,qai rfl];intro S' ab;obtain⟨w1,w3,w4⟩:=Fp.red rQ ab;exact fin S'.gT w1 w3 w4
   ·rw[qah rQ];exact fin SR Fp rfl rfl
set_option maxRecDepth 100000 in
theorem RG{us:List Int}{F:(Nat->Bool)->Prop}{vars U V D:Nat}{budget:Int}(hD:2*vars+3<=D)(hu:∀y∈us,y≠0/\ -(vars:Int)<=y/\y<=vars)(hU:U<=2199023255000)(hV:V<=1200000000000)(Be:us.length<=1099511627776):
  ∀(c next n:Nat)(S:Sv),Gx us F vars U V c S->next <=n+64->n+c<2199023255000->(n:Int)<=budget->n+c=budget.toNat+2->ev true budget us (Tx us F vars U V) D c next n S:=by
 intro c;induction c with
 |zero=>
  intro next n S h J hc h1 h2
  omega
 |succ c ih=>
  intro next n S h J hc h1 h2
  rw[ev];refine V3 (c:=c) hu hU hV Be (by omega) (by omega) (fun nx S2 k1 k2 k3=>ih nx (n+1) S2 k1 (by omega) (by omega) (by omega) (by omega)) D next S h J ?_
  have :=h.vars;unfold mu;split<;>omega
structure gV(F:(Nat->Bool)->Prop)(vars U V:Nat)(S:Sv):Prop where
 inv:S.Inv
 db:S.T.levels.length=0
 hc:S.Hc
 kn:S.cX F
 mb: -(V:Int)<=S.many/\S.many<=V
 vars:S.vars=vars
 used:S.used<=U
 list:S.list.length<=V
 bump:S.bump<=1073741824
 lim:S.cv<=401+V+V/16
theorem gV.go{F:(Nat->Bool)->Prop}{vars U V:Nat}{S:Sv}(h:gV F vars U V S)(J:S.bad=false)(us:List Int)(c:Nat):Gx us F vars (U+1+c) (V+c) c S.a7.cW:=
 ⟨h.inv.a7.cW,⟨h.hc.all,h.hc.pos⟩,h.kn.a7.cW,fun i h1=>by
   have h1:i<S.T.levels.length:=h1;have :=h.db;omega,fun e he h0 h1 h2=>by
   have :=(iE h.inv.ok (show e∈S.R from he)).2.2.2;have :=h.db;omega,by have :=h.mb;show -((V+c:Nat):Int)<=S.many/\S.many+(c:Int)<=((V+c:Nat):Int);omega,h.vars,rfl,rfl,by have :=h.used;show S.used+1+c<=_;omega,by have :=h.list;show S.list.length+c<=_;omega,h.bump,by have :=h.lim;show S.cv<=_;omega,J,
   ⟨fun i hi=>by have hi:i<S.T.levels.length:=hi;have :=h.db;omega,by show((S.T.levels.length:Nat):Int)<=_;rw[h.db];omega⟩⟩
def adu(us:List Int)(F:(Nat->Bool)->Prop)(vars:Nat)(S:Sv)(r:Int):Prop:=(r=0/\S.has=false)\/Ans us F vars S r
theorem Tx.done{us:List Int}{F:(Nat->Bool)->Prop}{vars U V:Nat}{S:Sv}{r:Int}(h:Tx us F vars U V S r):gV F vars U V (S.back 0)/\adu us F vars (S.back 0) r:=by
 have ok:=h.inv.ok;have hb:=mh S 0;have hk:=ok.back 0;have hh:=Aj S 0;have Kz:(S.back 0).T.levels.length=0:=by
  by_cases hl:0<S.T.levels.length
  ·exact(jk ok hl).2.2.1
  ·have :S.back 0=S:=by unfold Sv.back;rw[qai (by omega)]
   rw[this];omega
 refine⟨⟨h.inv.back 0,Kz,h.hc.back ok 0,h.kn.back h.inv 0,by rw[hb.2.2.1];exact h.mb,hk.2.1.trans h.vars,by rw[hb.2.1];exact h.used,by rw[hk.2.2];exact h.list,by rw[hb.2.2.2.2.2.2];exact h.bump,by rw[hb.2.2.2.1];exact h.lim⟩,?_⟩;unfold adu Ans;rw[hh.1,hh.2,hb.1];rcases h.ans with h0 |⟨r1,o,c0,nb⟩ |⟨r2,n0,J⟩
 ·exact .inl h0
 ·refine .inr (.inl ⟨r1,o.has,c0,by rw[o.model,<-h.vars];simp,fun a ha=> ?_⟩);have hm:=Sb h.inv o.full o.set a (fun v v1 v2=>by rw[ha v v1 (by rw[<-h.vars];exact v2),o.model];simp only[aa,aZ,List.getElem?_range (show v<S.vars+1 by omega),dA,aJ]);refine⟨h.kn.full nb a ⟨fun n _ hn=>hm.2 n hn,fun e he _=>hm.1 e he⟩,fun u hu=> ?_⟩;obtain⟨e,he,hx⟩:=o.us u hu;rw[<-hx];exact hm.1 e he
 ·refine .inr (.inr ⟨r2,n0,?_⟩);rcases J with J |⟨J,tk⟩
  ·exact⟨fun a ha=>J.no a (h.kn.sound a ha),J.sub,J.ord⟩
  ·rw[J];exact⟨fun a ha=>absurd ha (tk a),(fun u hu=>by cases hu),List.Pairwise.nil⟩
def Va(us:List Int)(F:(Nat->Bool)->Prop)(vars U V:Nat)(S:Sv)(r:Int):Prop:=gV F vars U V S/\adu us F vars S r
end Sv
theorem yY:∀(n:Nat)(v:Int)(H:Hp),HI H->1<=v->v+n<=H.at_.length->(∀y∈H.items,y∈(Sv.jy n v H).items)/\(∀x:Int,v<=x->x<v+n->x∈(Sv.jy n v H).items)/\∀y∈(Sv.jy n v H).items,y∈H.items\/v<=y
 |0,v,H,h,h1,h2=>⟨fun y J=>J,fun x h3 h4=>by omega,fun y J=> .inl J⟩
 |n+1,v,H,h,h1,h2=>by
  have hk:=h.fW v;obtain⟨g1,g2,g3⟩:=yY n (v+1) (Sv.fW H v) hk.1 (by omega) (by rw[hk.2];omega);rw[Sv.jy];refine⟨fun y J=>g1 y (wF h v J),fun x h3 h4=> ?_,fun y J=> ?_⟩
  ·by_cases e:x=v
   ·rw[e];exact g1 v (Gb h (by omega) (by omega))
   ·exact g2 x (by omega) (by omega)
  ·rcases g3 y J with h5 |h5
   ·rcases B5 h v y h5 with h6 |h6
    ·exact .inl h6
    ·exact .inr (by omega)
   ·exact .inr (by omega)
namespace Sv
theorem E7{S:Sv}(ok:S.Ok 0)(n:Nat)(J:S.vars+n<=262143):(S.grow n).R=S.R/\(S.grow n).T.levels.length=S.T.levels.length:=by have h:=ok.rep.grow n (by omega);exact⟨X9 (S:=S.grow n) h,h.dep⟩
theorem Ri{S:Sv}(ok:S.Ok 0)(n:Nat)(J:S.vars+n<=262143)(x:Int):(S.grow n).val x=S.val x:=by have h1:=(ok.grow n J).rep;have h2:=ok.rep;rw[(E7 ok n J).1]at h1;unfold val;rw[h1.mQ,h2.mQ]
theorem Hc.grow{S:Sv}(h:S.Hc)(ok:S.Ok 0)(n:Nat)(J:S.vars+n<=262143):(S.grow n).Hc:=by
 have hg:HI (S.H.eP n)/\(S.H.eP n).at_.length=S.vars+n+1:=by rw[rD ok.hl J];refine⟨ok.hi.grow n,?_⟩;have :=ok.hl;simp only[Hp.growBy,an,a8];omega
 have hit:(S.H.eP n).items=S.H.items:=by rw[rD ok.hl J];rfl
 obtain⟨g1,g2,g3⟩:=yY n ((S.vars:Int)+1) (S.H.eP n) hg.1 (by omega) (by rw[hg.2];omega);rw[hit]at g1 g3;refine⟨fun v h1 h2 h3=> ?_,fun x hx=> ?_⟩
 ·rw[Ri ok n J]at h3;have h2:v<=((S.vars+n:Nat):Int):=h2;by_cases e:v<=S.vars
  ·exact g1 v (h.all v h1 e h3)
  ·exact g2 v (by omega) (by omega)
 ·rcases g3 x hx with h4 |h4
  ·exact h.pos x h4
  ·omega
theorem cX.iff{S:Sv}{F G:(Nat->Bool)->Prop}(h:S.cX F)(hi:∀a,F a↔G a):S.cX G:=
 ⟨fun a J=>h.sound a ((hi a).2 J),fun hb a J=>h.bad hb a ((hi a).2 J),fun hb a J=>(hi a).1 (h.full hb a J)⟩
theorem gV.iff{S:Sv}{F G:(Nat->Bool)->Prop}{vars U V:Nat}(h:gV F vars U V S)(hi:∀a,F a↔G a):gV G vars U V S:=
 ⟨h.inv,h.db,h.hc,h.kn.iff hi,h.mb,h.vars,h.used,h.list,h.bump,h.lim⟩
theorem gV.new(V:Nat)(hV:V<=262143):gV (fun _=>True) V 0 0 (Sv.new (V:Int)):=by
 obtain⟨i1,i2,i3,i4,i5,i6,i7⟩:=Inv.new (V:Int);have hv:=(Sv.Ok.new (V:Int)).2;have GQ:(Sv.new (V:Int)).vars=V:=by rw[hv];omega
 have hR:(Sv.new (V:Int)).R=[]:=rfl;have fJ:∀n,(Sv.new (V:Int)).rc n=⟨[],false,0⟩:=fun n=>o6 (aU _);have QQ:bare.Ok 0:=by have :=(Sv.Ok.new 0).1;exact this
 have nX:bare.Hc:=⟨fun v h1 J=>by have J:v<=((0:Nat):Int):=J;omega,fun x hx=>by cases hx⟩
 refine⟨i1,i2,nX.grow QQ _ (by show 0+_<=_;omega),cX.new _,by rw[i3];exact⟨gE 0,gE 0⟩,GQ,by rw[i6];omega,by rw[i5];exact aq _,by rw[i7];decide,by rw[i4];decide⟩
structure AdS(S S':Sv):Prop where
 H:S'.H=S.H
 R:∃Z,S'.R=S.R++Z
theorem AdS.aeC(S:Sv):AdS S S.a7:=⟨rfl,[],by rw[cq];rfl⟩
theorem LO{S:Sv}(h:S.Inv){out:List Int}(h1:out.length<=1048576)(hl:∀x∈out,x≠0/\ -(S.vars:Int)<=x/\x<=S.vars)(hd:(out.map tv).Nodup)(hv:∀x∈out,S.val x=0)(hr:S.list.length<2199023255552):AdS S (S.iD out):=by
 unfold Sv.iD;by_cases e0:out.length=0
 ·rw[qai e0];exact⟨rfl,[],by rw[cq];rfl⟩
 ·rw[qah e0];have hm:=get_mem (l:=out) (i:=0) (by omega);by_cases J:out.length=1
  ·rw[qai J];have ht:=tH (hl _ hm).1 (hl _ hm).2.1 (hl _ hm).2.2 h.ok.vl;have hR:=sA (r:=0) h.ok (lK h.ok ht.1 ht.2 (hv _ hm));exact⟨rfl,_,hR⟩
  ·rw[qah J];have hs:=du S out false;exact⟨hs.2.2.2.2.2,[],by rw[cq];exact ew hs.1⟩
theorem Qa{S:Sv}(h:S.Inv){l:List Int}(kQ:Ra l)(hr:S.list.length<2199023255552)(Jh:lX S.vars l=0):AdS S (S.fD l).1:=by
 unfold Sv.fD;rw[qai Jh];by_cases hs:S.oe (nrm l)=true
 ·rw[qai hs];exact AdS.aeC S
 ·rw[qah hs];obtain⟨h1,h2⟩:=qD (S:=S) kQ Jh;have hs:S.oe (nrm l)=false:=by simpa using hs
  unfold oe at hs;rw[dw]at hs;have vM:=uE kQ Jh;have hd:=za (l:=l) (v:=S.vars) (fun x J=>(vM.2 x (o8 J).1).2) h.ok.vl hs.1;have k:=LO (S:=S.a7) h.a7 (out:=S.leftOf (nrm l)) (by omega) h2 (by
   unfold leftOf;exact hd.sublist (List.Sublist.map tv (List.filter_sublist))) (fun x J=>by
   unfold leftOf at J;rw[gh]at J;have h3:¬S.val x<0:=by simpa using J.2
   have h4:¬0<S.val x:=fun h5=>by have :(nrm l).any (fun x=>decide (0<S.val x))=true:=cP.2 ⟨x,J.1,by simpa using h5⟩;rw[this]at hs;cases hs.2
   show S.val x=0;omega) hr
  exact⟨k.H,k.R⟩
theorem gV.fD{S:Sv}{F:(Nat->Bool)->Prop}{vars U V:Nat}(h:gV F vars U V S){l:List Int}(J:Ra l)(hr:S.list.length<2199023255552)(Jh:lX S.vars l=0):gV (fun a=>F a/\eX a l) vars U (V+1) (S.fD l).1:=by obtain⟨k1,k2⟩:=h.inv.fD h.db J hr;obtain⟨m1,m2,m3,m4,m5⟩:=CQ S l;have hv:=(h.inv.ok.fD J hr).2;have hs:=Qa h.inv J hr Jh;obtain⟨Z,hZ⟩:=hs.R;have h2:=h.list;have h3:=h.lim;exact⟨k1,k2,h.hc.mono h.inv.ok k1.ok hv (fun y=>by rw[hs.H]) (fun e he=>by rw[hZ];exact av _ he),h.kn.fD h.inv h.db J hr Jh,by have :=h.mb;rw[m3];omega,hv.trans h.vars,by rw[m1];exact h.used,by omega,by rw[m2];exact h.bump,by rw[m4];omega⟩
end Sv
end Go.Proofs.YtpjbaobgnhjgoaaGreat
