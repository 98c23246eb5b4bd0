/- Parts of a proof. -/
import Derived.Test.YtjmmpfjcpdepjaaGreatDoorGAO
set_option linter.unusedVariables false
set_option linter.unusedSimpArgs false
set_option maxHeartbeats 8000000
set_option maxRecDepth 100000
namespace Go.Proofs.YtjmmpfjcpdepjaaGreatDoor
open Go.RowKit
namespace Sv
variable {few:Prop} {W:List Int}
def Lw (u:Nat)(T:Tr):Prop:=(∀i:Nat,i<T.levels.length->(i:Int)<=u+T.levels[i]!)/\(T.levels.length:Int)<=u+T.lits.length
theorem Lw.mono {u:Nat}{T T':Tr}(h:Lw u T)(h1:T'.levels=T.levels)(h2:T.lits.length<=T'.lits.length):Lw u T':=⟨by rw[h1];exact h.1,by rw[h1];have :=h.2;omega⟩
theorem Lw.df {u:Nat}{T:Tr}(h:Lw u T)(m:Nat):Lw u (T.df m):=by
 unfold Tr.df;split
 ·rename_i hm;have hl:(T.levels.take m).length=m:=by rw[bp];omega
  refine⟨fun i hi=> ?_,?_⟩
  ·have hi:i<(T.levels.take m).length:=hi;rw[hl]at hi;have :=h.1 i (by omega);have e:(T.levels.take m)[i]! =T.levels[i]! :=by simp only[ae,List.getElem?_take];rw[aae hi]
   show(i:Int)<=u+(T.levels.take m)[i]!;rw[e];exact this
  ·show((T.levels.take m).length:Int)<=u+((T.lits.take (T.levels[m]!).toNat).length:Nat);rw[hl,bp];have h1:=h.1 m hm;have h2:=h.2;omega
 ·exact h
theorem Lw.back {u:Nat}{S:Sv}(h:Lw u S.T){m:Nat}(ok:S.Ok m)(level:Nat):Lw u (S.back level).T:=by
 unfold Sv.back;split
 ·exact h
 ·show Lw u ((dY level S.T.lits.reverse S).T.df level);rw[(jG (level:Int) S.T.lits.reverse S m ok).2.1];exact h.df level
theorem K9 (level:Int):∀(r:List Int) (S:Sv),(dY level r S).T=S.T
 |[],S=>rfl
 |l::r,S=>by
  rw[dY];split
  ·rfl
  ·exact K9 level r _
theorem Mc {u:Nat}{B:Sv}(h:Lw u B.T)(l:List Int):Lw u (B.bu l).ch.T:=by
 have key:(B.bu l).ch.T.levels=B.T.levels/\B.T.lits.length<=(B.bu l).ch.T.lits.length:=by
  unfold bu;split
  ·exact⟨dO B _ _,wJ B _ _⟩
  ·have hs:=(cE B l true).1;refine⟨(dO (B.attach l true) _ _).trans (aao (fun T:Tr=>T.levels) hs),?_⟩;have :=wJ (B.attach l true) l[0]! ((B.list.length:Int)+1);have e:(B.attach l true).T.lits=B.T.lits:=aao (fun T:Tr=>T.lits) hs;rw[e]at this;exact this
 exact h.mono key.1 key.2
theorem JW:∀(f:Nat) (S:Sv),(cQ f S).1.T=S.T
 |0,S=>rfl
 |f+1,S=>by
  rw[cQ];split
  ·rfl
  ·simp only;split
   ·exact JW f _
   ·rfl
theorem xY (S:Sv)(h:S.choose.2=0):S.choose.1.T.levels=S.T.levels++[(S.T.lits.length:Int)]:=by
 have hp:S.pick.1.T=S.T:=JW _ S;unfold choose at h⊢;by_cases h0:S.pick.2=0
 ·rw[aae h0]at h;cases h
 ·rw[aac h0];show(S.pick.1.deep.put S.pick.2 0).T.levels=_;rw[dO];show S.pick.1.T.levels++[(S.pick.1.T.lits.length:Int)]=_;rw[hp]
theorem uA (us:List Int):∀(f:Nat) (S:Sv),(bz us f S).2=0->∃k:Nat,(bz us f S).1.T.levels=S.T.levels++List.replicate k (S.T.lits.length:Int)/\S.T.levels.length+k<=max us.length S.T.levels.length+1
 |0,S,h=>⟨1,xY S h,by omega⟩
 |f+1,S,h=>by
  rw[bz]at h⊢;split at h
  ·rename_i hd;rw[aae hd];simp only at h⊢;split at h
   ·cases h
   ·rename_i h1;rw[aac h1];split at h
    ·rename_i h2;rw[aae h2];refine⟨1,?_,by omega⟩;show(S.deep.put _ 0).T.levels=_;rw[dO];rfl
    ·rename_i h2;rw[aac h2];obtain⟨k,k1,k2⟩:=uA us f S.deep h;refine⟨k+1,?_,?_⟩
     ·rw[k1];show(S.T.levels++[(S.T.lits.length:Int)])++List.replicate k (S.T.lits.length:Int)=_;rw[jP];rfl
     ·rw[dQ]at k2;omega
  ·rename_i hd;rw[aac hd];exact⟨1,xY S h,by omega⟩
theorem Nw {us:List Int}{S:Sv}(h:Lw us.length S.T)(hq:(S.aR us).2=0)(hl:(S.aR us).1.T.lits.length=S.T.lits.length+1):Lw us.length (S.aR us).1.T:=by
 obtain⟨k,k1,k2⟩:=uA us (us.length+1) S hq
 change (S.aR us).1.T.levels=_ at k1
 have h2:=h.2;refine⟨fun i hi=> ?_,?_⟩
 ·rw[k1]at hi⊢;rw[aj,aW]at hi;by_cases pt:i<S.T.levels.length
  ·have e:(S.T.levels++List.replicate k (S.T.lits.length:Int))[i]! =S.T.levels[i]! :=by simp only[ae,cJ pt]
   rw[e];exact h.1 i pt
  ·have e:(S.T.levels++List.replicate k (S.T.lits.length:Int))[i]! =(S.T.lits.length:Int):=by simp only[ae,eO (by omega:S.T.levels.length<=i),List.getElem?_replicate];rw[aae (by omega)];rfl
   rw[e];omega
 ·rw[k1,aj,aW,hl];omega
structure Gx (few:Prop)(W us:List Int)(F:(Nat->Bool)->Prop)(vars U V c p:Nat)(S:Sv):Prop where
 inv:S.Inv
 hc:S.Hc
 kn:S.cR F
 as_:As us S
 dc:Dc us S
 iW:S.qR few W
 vars:S.vars=vars
 core:S.core=[]
 has:S.has=false
 used:S.used+c<=U
 list:S.list.length+c<=V
 bump:S.bump<=1073741824
 lim:S.bQ<=401+V+V/16
 bad:S.bad=false
 lw:Lw us.length S.T
 YB:few->S.yl+10<=p
structure Tx (few:Prop)(W us:List Int)(F:(Nat->Bool)->Prop)(vars U V:Nat)(S:Sv)(r:Int):Prop where
 inv:S.Inv
 hc:S.Hc
 kn:S.cR F
 iW:S.qR few W
 vars:S.vars=vars
 used:S.used<=U
 list:S.list.length<=V
 bump:S.bump<=1073741824
 lim:S.bQ<=401+V+V/16
 core:S.core.length<=us.length
 ans:(r=0/\S.has=false/\¬few)\/(r=1/\Wf us S/\S.core=[]/\S.bad=false)\/(r=2/\S.has=false/\(Wc us S\/(S.core=[]/\∀a,¬F a)))
theorem RW (S:Sv):S.LL.length<=S.list.length:=by unfold LL;have :=List.length_filter_le S.fg (List.range S.list.length);rwa[cu]at this
theorem Gx.small {us:List Int}{F:(Nat->Bool)->Prop}{vars U V c:Nat}{p:Nat}{S:Sv}(h:Gx few W us F vars U V c p S)(hU:U<=2199023255000)(hV:V<=1200000000000)(zc:us.length<=1099511627776):S.Small:=by have h1:=h.used;have h2:=h.list;have h3:=h.iW.many;have h4:=RW S;have h5:=h.lim;have h6:=h.lw.2;have h7:=vw h.inv.ok;have h8:=h.inv.ok.vl;exact⟨by omega,by omega,h.bump,by omega,by omega,by omega,by omega,h.core⟩
theorem Gx.cO {us:List Int}{F:(Nat->Bool)->Prop}{vars U V c:Nat}{S:Sv}(h:Gx few W us F vars U V (c+1) (c+1) S):Gx few W us F vars U V c (c+1) S.cO:=
 ⟨h.inv.cO,⟨h.hc.all,h.hc.pos⟩,h.kn.cO,h.as_,h.dc,h.iW.same (fun n=>⟨rfl,rfl⟩) rfl rfl,h.vars,h.core,h.has,by have :=h.used;show S.used+1+c<=_;omega,by have :=h.list;show S.list.length+c<=_;omega,h.bump,h.lim,h.bad,h.lw,fun hf=>by have :=h.YB hf;exact this⟩
theorem Gx.back {us:List Int}{F:(Nat->Bool)->Prop}{vars U V c:Nat}{S:Sv}(h:Gx few W us F vars U V c c S)(level:Nat):Gx few W us F vars U V c c (S.back level):=by
 have ok:=h.inv.ok;have hb:=jF S level;have hk:=ok.back level;have eE:∀n,((S.back level).rc n).lits=(S.rc n).lits/\((S.back level).rc n).jr=(S.rc n).jr:=fun n=>by rw[jJ hk.2.2];exact⟨rfl,rfl⟩
 exact⟨h.inv.back level,h.hc.back ok level,h.kn.back h.inv level,h.as_.back ok level,h.dc.back ok level,h.iW.same eE (by rw[hk.2.2]) hb.2.2.1,hk.2.1.trans h.vars,hb.1.trans h.core,(ye S level).1.trans h.has,by rw[hb.2.1];exact h.used,by rw[hk.2.2];exact h.list,by rw[hb.2.2.2.2.2.2];exact h.bump,by rw[hb.2.2.2.1];exact h.lim,hb.2.2.2.2.1.trans h.bad,h.lw.back ok level,fun hf=>by rw[aaO hb.2.2.2.1 (sT eE (by rw[hk.2.2])) (Lq ok level)];exact h.YB hf⟩
theorem Gx.follow {us:List Int}{F:(Nat->Bool)->Prop}{vars U V c:Nat}{S:Sv}(h:Gx few W us F vars U V c c S):Gx few W us F vars U V c c S.follow.1:=by
 obtain⟨f1,f2,f3,f4⟩:=uz h.inv;have Xq:=(Ok.follow h.inv.ok).2.1;have rm:=Xq;unfold Sv.rest at rm;simp only[Prod.mk.injEq]at rm;obtain⟨r1,r2,r3,r4,r5,r6,r7,r8,r9,WV,r11,r12,r13⟩:=rm;obtain⟨Z,hZ,_⟩:=f2.pre;have Aq:S.T.lits.length<=S.follow.1.T.lits.length:=by rw[<-jn,<-jn,hZ];simp
 exact⟨f1,h.hc.rest h.inv.ok f1.ok f2 Xq,h.kn.mo f2 f1 WV,h.as_.mo f2 (by rw[r12]),h.dc.mo f2,h.iW.mo f2 r13 r8,r2.trans h.vars,r5.trans h.core,r11.trans h.has,by rw[r6];exact h.used,by rw[r13];exact h.list,by rw[r7];exact h.bump,by rw[r9];exact h.lim,WV.trans h.bad,h.lw.mono r12 Aq,fun hf=>by have hP:S.follow.1.yl<=S.yl:=Fl r9 (by rw[XU f2 r13];have :=Jx hZ;omega);have :=h.YB hf;omega⟩
theorem Gx.conflict {us:List Int}{F:(Nat->Bool)->Prop}{vars U V c:Nat}{S:Sv}(h:Gx few W us F vars U V (c+1) (c+1) S)(mP:few->N7 W vars)(hV:V<=1200000000000){n:Nat}(hc:S.Jv n)(hn:(S.rc n).lits≠[])(hd:0<S.T.levels.length):
  ∃S2,S.cO.conflict n=some (S2,true)/\Gx few W us F vars U V c c S2:=by
 have h1:=h.cO;have hl:S.cO.list.length<2199023255552:=by have :=h1.list;omega
 obtain⟨S2,l,ct,c1,c2,c3,c4,S1,c5,c6⟩:=zn h1.inv (n:=n) hc hn hl hd;obtain⟨a1,a2⟩:=zo h1.inv h1.as_ h1.dc (n:=n) hc hn hd c2;obtain⟨n1,n2⟩:=Ch mP h1.iW h1.inv (n:=n) hc hn hl hd c2;have akU:S2.has=false:=by rw[c6,GJ,(ye S1 ct.toNat).1];have :S1.has=S.cO.has:=aao (fun x=>x.2.2.2.2.2.2.2.2.2.2.2.2.1) c5;rw[this];exact h.has
 have XL:S1.T=S.T:=aao (fun x=>x.1) c5;have Vk:Lw us.length S2.T:=by
  rw[c6];refine Mc ?_ l;unfold Sv.back;split
  ·rw[XL];exact h.lw
  ·show Lw us.length ((dY ct.toNat S1.T.lits.reverse S1).T.df ct.toNat);rw[K9,XL];exact h.lw.df _
 refine⟨S2,c2,⟨c3,h1.hc.conflict h1.inv (n:=n) hc hn hl hd c2,h1.kn.conflict h1.inv (n:=n) hc hn hl hd c2,a1,a2,n1,c4.vars.trans h.vars,c4.core.trans h.core,akU,?_,?_,c4.bump,by rw[c4.bQ];exact h.lim,c4.bad.trans h.bad,Vk,fun hf=> ?_⟩⟩
 ·have :=h.used;rw[c4.used];show S.used+1+c<=U;omega
 ·have :=h.list;have :=c4.W6;have e:S.cO.list.length=S.list.length:=rfl;omega
 ·have oH:S2.vars=vars:=c4.vars.trans h.vars;have hP:=RR c3.ok n1 hf (by rw[oH];exact mP hf) c4.bQ n2;have hP1:S.cO.yl=S.yl:=rfl;have :=h.YB hf;omega
theorem Gx.Yo {us:List Int}{F:(Nat->Bool)->Prop}{vars U V c:Nat}{S:Sv}(h:Gx few W us F vars U V (c+1) (c+1) S){n:Nat}(hc:S.Jv n)(hn:(S.rc n).lits≠[])(hd:S.T.levels.length=0):
  S.cO.conflict n=some ({ S.cO with bad:=true },false)/\Tx few W us F vars U V { S.cO with bad:=true } 2:=by
 have h1:=h.cO;refine⟨by unfold Sv.conflict;rw[aae (show S.cO.T.levels.length=0 from hd)],⟨h1.inv.congr (h1.inv.ok.Bm true) rfl rfl (fun _=>rfl) rfl,⟨h.hc.all,h.hc.pos⟩,h1.kn.zero h1.inv (n:=n) hc hn hd,h.iW.same (fun n=>⟨rfl,rfl⟩) rfl rfl,h.vars,by have :=h1.used;show S.used+1<=U;have e:S.cO.used=S.used+1:=rfl;omega,by have :=h.list;show S.list.length<=V;omega,h.bump,h.lim,by show S.core.length<=_;rw[h.core];exact bR _, .inr (.inr ⟨rfl,h.has, .inr ⟨h.core,fun a ha=>(h.kn.sound a ha).Fc h.inv hc hn hd⟩⟩)⟩⟩
theorem Gx.stop {us:List Int}{F:(Nat->Bool)->Prop}{vars U V c:Nat}{S:Sv}(h:Gx few W us F vars U V c c S)(hc:c<=9):Tx few W us F vars U V S 0:=
 ⟨h.inv,h.hc,h.kn,h.iW,h.vars,by have :=h.used;omega,by have :=h.list;omega,h.bump,h.lim,by rw[h.core];exact bR _, .inl ⟨rfl,h.has,fun hf=>by have :=h.YB hf;omega⟩⟩
theorem Gx.red {us:List Int}{F:(Nat->Bool)->Prop}{vars U V c:Nat}{S:Sv}(h:Gx few W us F vars U V c c S)(mP:few->N7 W vars)(pr:(S.bQ:Int)<S.many){S':Sv}(hr:I6 S S'):Gx few W us F vars U V c c S'.fQ/\S'.fQ.T=S.T/\S'.fQ.head=S.head:=by
 obtain⟨k1,k2,k3,k4,k5⟩:=Ps h.inv hr;have EI:=TU h.iW hr;obtain⟨D,d1,d2,d3,rfl⟩:=hr;have hs:=lp D S;have hm:=xI D S;have hI:(D.foldl cg S).fQ.Inv:=k1.congr k1.ok.fQ rfl rfl (fun _=>rfl) rfl;have ju:=h.iW.many;have qh:=RW S;have aoP:=h.list;refine⟨⟨hI,h.hc.mono h.inv.ok hI.ok hs.2.1 (fun y=>by show y∈(D.foldl cg S).H.items↔_;rw[k3]) (fun e he=>by rw[dJ (show(D.foldl cg S).fQ.T=S.T from k2)];exact he),(k5 F h.kn).congr rfl rfl rfl,h.as_.congr k2,h.dc.congr k2,EI.same (fun n=>⟨rfl,rfl⟩) rfl rfl,hs.2.1.trans h.vars,hs.2.2.2.1.trans h.core,hm.2.2.1.trans h.has,?_,?_,?_,?_,hm.2.2.2.trans h.bad,by show Lw us.length (D.foldl cg S).T;rw[k2];exact h.lw,fun hf=> ?_⟩,k2,k4⟩
 ·show(D.foldl cg S).used+_<=U;rw[hm.1];exact h.used
 ·show(D.foldl cg S).list.length+_<=V;rw[hs.2.2.1];exact h.list
 ·show(D.foldl cg S).bump<=_;rw[hm.2.1];exact h.bump
 ·show(D.foldl cg S).bQ+((D.foldl cg S).bQ/16+1)<=_;rw[hs.2.2.2.2.1];omega
 ·have hP:(D.foldl cg S).fQ.yl<=S.yl:=We h.inv.ok h.iW hf (by rw[h.vars];exact mP hf) pr (by show(D.foldl cg S).bQ+_=_;rw[hs.2.2.2.2.1]);have :=h.YB hf;omega
theorem Gx.decide {us:List Int}{F:(Nat->Bool)->Prop}{vars U V c:Nat}{S:Sv}(h:Gx few W us F vars U V c c S)(hf:S.head=S.T.lits.length)(hu:∀y∈us,y≠0/\ -(vars:Int)<=y/\y<=vars):
  ((S.aR us).2=0->Gx few W us F vars U V c c (S.aR us).1/\(S.aR us).1.T.lits.length=S.T.lits.length+1)/\
  ((S.aR us).2≠0->Tx few W us F vars U V (S.aR us).1 (S.aR us).2):=by
 have Am:∀y∈us,y≠0/\ -(S.vars:Int)<=y/\y<=S.vars:=by rw[h.vars];exact hu
 obtain⟨d1,d2⟩:=E0 h.inv hf Am;obtain⟨e1,e2⟩:=uB (us.length+1) S h.inv hf Am h.has h.core;obtain⟨t1,t2,t3,t4,t5,t6⟩:=qL (us.length+1) S h.inv hf Am h.as_ h.dc h.hc h.core (by omega);have dk:=Ok.aR h.inv.ok us;have dm:=sH us (us.length+1) S;have dm2:=qM us (us.length+1) S;have dl:(S.aR us).2=0->Lw us.length (S.aR us).1.T:=fun hq=>Nw h.lw hq (d2 hq)
 change Fin us (S.aR us).1 at e1
 change (S.aR us).2=0->(S.aR us).1.has=false at e2
 change (S.aR us).2=0\/(S.aR us).2=1\/(S.aR us).2=2 at t1
 change Up S (S.aR us).1 at t2
 change (S.aR us).2=0->As us (S.aR us).1/\Dc us (S.aR us).1 at t3
 change (S.aR us).1.Hc at t4
 change (S.aR us).2=1->Wf us (S.aR us).1 at t5
 change (S.aR us).2=2->Wc us (S.aR us).1 at t6
 change ((S.aR us).2=0->(S.aR us).1.core=S.core)/\(S.aR us).1.used=S.used/\(S.aR us).1.many=S.many/\(S.aR us).1.bQ=S.bQ/\(S.aR us).1.bad=S.bad at dm
 change (S.aR us).1.bump=S.bump/\((S.aR us).2=2->(S.aR us).1.has=S.has)/\((S.aR us).2≠2->(S.aR us).1.core=S.core)at dm2
 generalize S.aR us=q at *;have eE:=jJ t2.list;have EI:q.1.qR few W:=h.iW.same (fun n=>by rw[eE];exact⟨rfl,rfl⟩) (by rw[t2.list]) dm.2.2.1;have ar0:=h.used;have kf:=h.list;refine⟨fun hq=>⟨⟨d1,t4,t2.W7 h.kn,(t3 hq).1,(t3 hq).2,EI,t2.vars.trans h.vars,(dm.1 hq).trans h.core,e2 hq,by rw[dm.2.1];omega,by rw[t2.list];omega,by rw[dm2.1];exact h.bump,by rw[dm.2.2.2.1];exact h.lim,dm.2.2.2.2.trans h.bad,dl hq,fun hf=>by obtain⟨Z,hZ,_⟩:=t2.R;have hP:q.1.yl<=S.yl:=Fl dm.2.2.2.1 (by rw[sT (fun n=>by rw[eE];exact⟨rfl,rfl⟩) (by rw[t2.list])];have :=Jx hZ;omega);have :=h.YB hf;omega⟩,d2 hq⟩,fun hq=>⟨d1,t4,t2.W7 h.kn,EI,t2.vars.trans h.vars,by rw[dm.2.1];omega,by rw[t2.list];omega,by rw[dm2.1];exact h.bump,by rw[dm.2.2.2.1];exact h.lim,e1.core,?_⟩⟩;rcases t1 with h0 |h0 |h0
 ·exact absurd h0 hq
 ·exact .inr (.inl ⟨h0,t5 h0,(dm2.2.2 (by omega)).trans h.core,dm.2.2.2.2.trans h.bad⟩)
 ·exact .inr (.inr ⟨h0,(dm2.2.1 h0).trans h.has, .inl (t6 h0)⟩)
end Sv
namespace Sv
variable {few:Prop} {W:List Int}
theorem Bo {red:Bool}{budget:Int}{us:List Int}{D:Nat}:∀(Q Q':Sv->Int->Prop),(∀S r,Q S r->Q' S r)->∀c next n S,fe red budget us Q D c next n S->fe red budget us Q' D c next n S:=by
 intro Q Q' hQ c;induction c with
 |zero=>intro next n S h;exact h
 |succ c ih=>
  intro next n S hh
  rw[fe]at hh⊢;revert hh;generalize hK:fe red budget us Q D c=K;generalize hK':fe red budget us Q' D c=K';rw[hK,hK']at ih;clear hK hK';generalize D=d;induction d generalizing next n S with
  |zero=>exact fun h=>h
  |succ d ihd=>
   intro hh;rw[iE]at hh⊢;obtain⟨m1,m2,m3,m4⟩:=hh;refine⟨m1,m2,m3,?_⟩;cases hf:S.follow.2 with
   |some cc=>
    rw[hf]at m4;simp only at m4⊢;revert m4;cases S.follow.1.cO.conflict cc with
    |none=>exact fun h=>h
    |some q=>
     obtain⟨S2,b⟩:=q;cases b with
     |false=>exact hQ _ _
     |true=>
      show(if _ then _ else _)->(if _ then _ else _);split
      ·exact hQ _ _
      ·exact ih _ _ _
   |none=>
    rw[hf]at m4;simp only at m4⊢;unfold zS at m4⊢;have Xh:∀S3:Sv,(if(S3.aR us).2=0 then iE red budget us Q K d (if next <=n then n+64 else next) n (S3.aR us).1 else Q (S3.aR us).1 (S3.aR us).2)->(if(S3.aR us).2=0 then iE red budget us Q' K' d (if next <=n then n+64 else next) n (S3.aR us).1 else Q' (S3.aR us).1 (S3.aR us).2):=by
     intro S3;split
     ·exact ihd _ _ _
     ·exact hQ _ _
    by_cases pr:((S.follow.1.dt n next).bQ:Int)<(S.follow.1.dt n next).many
    ·rw[aae pr]at m4⊢;by_cases Em:red=true
     ·rw[aae Em]at m4⊢;exact fun S' vG=>Xh _ (m4 S' vG)
     ·rw[aac Em]at m4;exact absurd m4 id
    ·rw[aac pr]at m4;rw[aac pr];exact Xh _ m4
theorem TP {us:List Int}{F:(Nat->Bool)->Prop}{vars U V c n:Nat}{budget:Int}{K:Nat->Nat->Sv->Prop}(mP:few->N7 W vars)(hu:∀y∈us,y≠0/\ -(vars:Int)<=y/\y<=vars)(hU:U<=2199023255000)(hV:V<=1200000000000)(zc:us.length<=1099511627776)(hn:n<2199023255000)(sl:n+(c+1)=budget.toNat+2)
  (hK:∀next S,Gx few W us F vars U V c c S->next <=n+64->¬budget<((n+1:Nat):Int)->K next (n+1) S):
  ∀(d next :Nat) (S:Sv),Gx few W us F vars U V (c+1) (c+1) S->next <=n+64->mu S next n<d->iE true budget us (Tx few W us F vars U V) K d next n S:=by
 intro d;induction d with
 |zero=>
  intro next S h hx hm
  exact absurd hm (aI _)
 |succ d ih=>
  intro next S h hx hm
  rw[iE];refine⟨h.small hU hV zc,by omega,by omega,?_⟩;obtain⟨f1,f2,f3,f4⟩:=uz h.inv;have g:=h.follow;have Aq:S.T.lits.length<=S.follow.1.T.lits.length:=by obtain⟨Z,hZ,_⟩:=f2.pre;rw[<-jn,<-jn,hZ];simp
  generalize S.follow=q at *;obtain⟨SF,o⟩:=q;simp only at f1 f2 f3 f4 g Aq⊢;have hSv:=h.vars;have hgv:=g.vars;cases o with
  |some m=>
   simp only;obtain⟨k1,k2⟩:=f4 m rfl;by_cases hd:SF.T.levels.length=0
   ·obtain⟨z1,z2⟩:=g.Yo k1 k2 hd;rw[z1];exact z2
   ·obtain⟨S2,c1,c2⟩:=g.conflict mP hV k1 k2 (by omega);rw[c1];show if budget<((n+1:Nat):Int)then _ else K next (n+1) S2
    by_cases hb:budget<((n+1:Nat):Int)
    ·rw[aae hb];exact c2.stop (by omega)
    ·rw[aac hb];exact hK next S2 c2 hx hb
  |none=>
   simp only;obtain⟨r1,r2⟩:=Dz f1 (f3 rfl) n next
   have Ox:Gx few W us F vars U V (c+1) (c+1) (SF.dt n next):=by
    unfold Sv.dt;split
    ·exact g.back 0
    ·exact g
   have xm:¬next <=n->(SF.dt n next).T.lits.length=SF.T.lits.length:=fun yB=>by unfold Sv.dt;rw[aac yB]
   generalize SF.dt n next =SR at *
   have fin:∀S3:Sv,Gx few W us F vars U V (c+1) (c+1) S3->S3.T=SR.T->S3.head=SR.head->(if(S3.aR us).2=0 then iE true budget us (Tx few W us F vars U V) K d (if next <=n then n+64 else next) n (S3.aR us).1 else Tx few W us F vars U V (S3.aR us).1 (S3.aR us).2):=by
    intro S3 t1 t4 t5;obtain⟨e1,e2⟩:=t1.decide (by rw[t5,r2,t4]) hu;generalize S3.aR us=p at *;by_cases hq:p.2=0
    ·rw[aae hq];obtain⟨e3,e5⟩:=e1 hq;have m6:=vw e3.inv.ok;have oH:=e3.vars;refine ih _ p.1 e3 (by split<;>omega) ?_;rw[t4]at e5;unfold mu at hm⊢;by_cases Hv:next <=n
     ·rw[aae Hv]at hm⊢;rw[aac (by omega)];omega
     ·rw[aac Hv]at hm⊢;rw[aac Hv];have :=xm Hv;omega
    ·rw[aac hq];exact e2 hq
   unfold zS;by_cases pr:(SR.bQ:Int)<SR.many
   ·rw[aae pr,aae rfl];intro S' Tm;obtain⟨w1,w3,w4⟩:=Ox.red mP pr Tm;exact fin S'.fQ w1 w3 w4
   ·rw[aac pr];exact fin SR Ox rfl rfl
theorem Po {us:List Int}{F:(Nat->Bool)->Prop}{vars U V D:Nat}{budget:Int}(mP:few->N7 W vars)(hD:2*vars+3<=D)(hu:∀y∈us,y≠0/\ -(vars:Int)<=y/\y<=vars)(hU:U<=2199023255000)(hV:V<=1200000000000)(zc:us.length<=1099511627776):
  ∀(c next n:Nat) (S:Sv),Gx few W us F vars U V c c S->next <=n+64->n+c<2199023255000->(n:Int)<=budget->n+c=budget.toNat+2->fe true budget us (Tx few W us F vars U V) D c next n S:=by
 intro c;induction c with
 |zero=>
  intro next n S h hx hc h1 h2
  omega
 |succ c ih=>
  intro next n S h hx hc h1 h2
  rw[fe];refine TP (c:=c) mP hu hU hV zc (by omega) (by omega) (fun nx S2 k1 k2 k3=>ih nx (n+1) S2 k1 (by omega) (by omega) (by omega) (by omega)) D next S h hx ?_
  have :=h.vars;unfold mu;split<;>omega
structure iT (few:Prop)(W:List Int)(F:(Nat->Bool)->Prop)(vars U V:Nat)(S:Sv):Prop where
 inv:S.Inv
 ct:S.T.levels.length=0
 hc:S.Hc
 kn:S.cR F
 iW:S.qR few W
 vars:S.vars=vars
 used:S.used<=U
 list:S.list.length<=V
 bump:S.bump<=1073741824
 lim:S.bQ<=401+V+V/16
theorem iT.go {F:(Nat->Bool)->Prop}{vars U V:Nat}{S:Sv}(h:iT few W F vars U V S)(hb:S.bad=false)(us:List Int)(c:Nat)(hp:few->69793746954<=c):Gx few W us F vars (U+1+c) (V+c) c c S.bI.cO:=
 ⟨h.inv.bI.cO,⟨h.hc.all,h.hc.pos⟩,h.kn.bI.cO,fun i h1=>by
   have h1:i<S.T.levels.length:=h1;have :=h.ct;omega,fun e he h0 h1 h2=>by
   have :=(gM h.inv.ok (show e∈S.R from he)).2.2.2;have :=h.ct;omega,h.iW.same (fun n=>⟨rfl,rfl⟩) rfl rfl,h.vars,rfl,rfl,by have :=h.used;show S.used+1+c<=_;omega,by have :=h.list;show S.list.length+c<=_;omega,h.bump,by have :=h.lim;show S.bQ<=_;omega,hb,
   ⟨fun i hi=>by have hi:i<S.T.levels.length:=hi;have :=h.ct;omega,by show((S.T.levels.length:Nat):Int)<=_;rw[h.ct];omega⟩,fun hf=>by have :=hp hf;have :=aaN S;show S.yl+10<=c;omega⟩
def WR (few:Prop)(us:List Int)(F:(Nat->Bool)->Prop)(vars:Nat)(S:Sv)(r:Int):Prop:=(r=0/\S.has=false/\¬few)\/Ans us F vars S r
theorem Tx.done {us:List Int}{F:(Nat->Bool)->Prop}{vars U V:Nat}{S:Sv}{r:Int}(h:Tx few W us F vars U V S r):iT few W F vars U V (S.back 0)/\WR few us F vars (S.back 0) r:=by
 have ok:=h.inv.ok;have hb:=jF S 0;have hk:=ok.back 0;have hh:=ye S 0;have eE:∀n,((S.back 0).rc n).lits=(S.rc n).lits/\((S.back 0).rc n).jr=(S.rc n).jr:=fun n=>by rw[jJ hk.2.2];exact⟨rfl,rfl⟩
 have Ia:(S.back 0).T.levels.length=0:=by
  by_cases hl:0<S.T.levels.length
  ·exact(fS ok hl).2.2.1
  ·have :S.back 0=S:=by unfold Sv.back;rw[aae (by omega)]
   rw[this];omega
 refine⟨⟨h.inv.back 0,Ia,h.hc.back ok 0,h.kn.back h.inv 0,h.iW.same eE (by rw[hk.2.2]) hb.2.2.1,hk.2.1.trans h.vars,by rw[hb.2.1];exact h.used,by rw[hk.2.2];exact h.list,by rw[hb.2.2.2.2.2.2];exact h.bump,by rw[hb.2.2.2.1];exact h.lim⟩,?_⟩;unfold WR Ans;rw[hh.1,hh.2,hb.1];rcases h.ans with h0 |⟨r1,o,c0,nb⟩ |⟨r2,n0,ht⟩
 ·exact .inl h0
 ·refine .inr (.inl ⟨r1,o.has,c0,by rw[o.model,<-h.vars];simp,fun a ha=> ?_⟩);have hm:=PS h.inv o.full o.set a (fun v v1 v2=>by rw[ha v v1 (by rw[<-h.vars];exact v2),o.model];simp only[ae,aJ,nc (show v<S.vars+1 by omega),cD,ay]);refine⟨h.kn.full nb a ⟨fun n _ hn=>hm.2 n hn,fun e he _=>hm.1 e he⟩,fun u hu=> ?_⟩;obtain⟨e,he,hx⟩:=o.us u hu;rw[<-hx];exact hm.1 e he
 ·refine .inr (.inr ⟨r2,n0,?_⟩);rcases ht with ht |⟨ht,rE⟩
  ·exact⟨fun a ha=>ht.no a (h.kn.sound a ha),ht.sub,ht.ord⟩
  ·rw[ht];exact⟨fun a ha=>absurd ha (rE a),(fun u hu=>by cases hu),List.Pairwise.nil⟩
def anO (few:Prop)(W us:List Int)(F:(Nat->Bool)->Prop)(vars U V:Nat)(S:Sv)(r:Int):Prop:=iT few W F vars U V S/\WR few us F vars S r
theorem TM {us:List Int}{F:(Nat->Bool)->Prop}{vars U V:Nat}{S:Sv}(h:iT few W F vars U V S)(mP:few->N7 W vars)(hU:U<=1000000000000)(hV:V<=8388608)(hu:∀y∈us,y≠0/\ -(vars:Int)<=y/\y<=vars)(zc:us.length<=1099511627776):
  S.me true 1099511627776 us (2*S.vars+3) 1099511627778 (anO few W us F vars (U+1+1099511627778) (V+1099511627778)):=by
 have lx:=h.inv.ok.vl;have YW:=h.vars;unfold me;have ho:us.any (gv S.vars)=false:=by
  cases h4:us.any (gv S.vars)with
  |false=>rfl
  |true=>
   obtain⟨x,hx,h5⟩:=cq.1 h4;obtain⟨y0,y1,y2⟩:=hu x hx;rw[<-YW]at y1 y2;rw[Gu lx y0 y1 y2]at h5;cases h5
 have hd:(decide ((1099511627776:Int)<1) ||us.any (gv S.vars))=false:=by rw[ho];rfl
 rw[hd,aac (by decide)];by_cases hb:S.bad=true
 ·rw[aae hb];exact⟨⟨h.inv.bI.cO,h.ct,⟨h.hc.all,h.hc.pos⟩,h.kn.bI.cO,h.iW.same (fun n=>⟨rfl,rfl⟩) rfl rfl,h.vars,by have :=h.used;show S.used+1<=_;omega,by have :=h.list;show S.list.length<=_;omega,h.bump,by have :=h.lim;show S.bQ<=_;omega⟩, .inr (.inr ⟨rfl,rfl,fun a ha=>absurd ha (h.kn.bad hb a),(fun u hu=>by cases hu),List.Pairwise.nil⟩)⟩
 ·rw[aac hb];have hb:S.bad=false:=by simpa using hb
  have hg:=h.go hb us 1099511627778 (fun _=>by decide);have hs:=Po (budget:=1099511627776) (D:=2*S.vars+3) mP (by omega) hu (by omega:U+1+1099511627778<=2199023255000) (by omega:V+1099511627778<=1200000000000) zc 1099511627778 64 0 S.bI.cO hg (by omega) (by omega) (by omega) (by decide);exact Bo _ _ (fun S' r k2=>k2.done) _ _ _ _ hs
end Sv
theorem Stay.cell {X:List Nat}{w w':World}(h:Stay X w w'){p:Addr}{v:Value}(hc:w.cell? p=some v)(hx:p.block∈X):w'.cell? p=some v:=by obtain⟨T,h1,h2⟩:=h;rw[World.cell?_of_block (h1.block p.block (bM hc) (h2 _ hx))];exact hc
theorem OwnX.old {X Y:List Nat}{w0 w:World}{L:aO}{S:Sv}(h:OwnX X w0 w L S)(hY:∀k∈Y,k<w0.heap.size):OwnX (X++Y) w0 w L S:=
 ⟨h.own,fun k hk=>by
  rcases ah.1 hk with h1 |h1
  ·exact h.fx k h1
  ·exact⟨aK (hY k h1) h.own.fr.size,h.own.nw k (hY k h1)⟩⟩
namespace Sv
def du (S:Sv):List (List Int)->Sv
 |[]=>S
 |c::r=>du (S.fT c).1 r
theorem yi (S:Sv):∀l r:List (List Int),S.du (l++r)=(S.du l).du r
 |[],r=>rfl
 |c::l,r=>yi (S.fT c).1 l r
structure Fit (vars V:Nat)(S:Sv):Prop where
 ok:S.Ok 0
 vars:S.vars=vars
 list:S.list.length<=V
 used:S.used<=2199023255552
theorem Fit.add {vars V:Nat}{S:Sv}(h:Fit vars V S)(hV:V<8388608){c:List Int}(hr:Ra c):Fit vars (V+1) (S.fT c).1:=by
 have hs:S.list.length<2199023255552:=by have :=h.list;omega
 obtain⟨m1,m2,m3,m4,m5⟩:=AE S c;obtain⟨k1,k2⟩:=h.ok.fT hr hs;exact⟨k1,k2.trans h.vars,by have :=h.list;omega,by rw[m1];exact h.used⟩
end Sv
theorem ru {X:List Nat}{w0:World}(w:World)(L:aO)(S:Sv)(h:OwnX X w0 w L S){vars V:Nat}(Ib:S.Fit vars V)(g:Nat)(H:Qh)(q:Qn)(hd:At w g 83 (qK H q L.a))(hg:g∈X)
  (A:Option Addr)(c:Nat)(hs:List Ls)(hr:j3 w A hs)(hxA:∀k∈ak A,k∈X)(hxs:∀x∈hs,∀k∈ak x.A,k∈X)
  (B4:∀x∈hs,ft vars x.l=0) (hl:V+hs.length<=8388608):
  Calls Tryz.prog 20 #[.pointer (some ⟨g,0,none⟩), .slice A hs.length c] w fun e w'=>e= .returned (.tuple #[])/\∃L',L'.a=L.a/\OwnX X w0 w' L' (S.du (hs.map (·.l)))/\Stay X w w':=by
 obtain⟨cT,de⟩:∃cT,S.du (hs.map (·.l))=cT:=⟨_,rfl⟩
 rw[de];obtain⟨a,ha⟩:∃a,L.a=a:=⟨_,rfl⟩
 rw[ha]at hd⊢;have HA0:=aa ha;have dM:=aa de;have HH:=aa hr;have af2:=aa h;have agj:=aa Ib;have NQ:=aa hxA;have HXS:=aa hxs;have Yh:=aa B4;have HD:=aa hd;have HG:=aa hg;have HXL:=aa (fun k hk=>(h.fx k hk).1);clear h hr de ha Ib hxA hxs B4 hd hg;go_enter Tryz.func20,Tryz.ntmps20;go_wp2_with fail;go_loopg [8] hs.length (fun gg OX wr=>∃(k:Nat) (L:aO) (S:Sv),k+gg=hs.length/\OX= .int .i64 k/\Hid (L.a=a)/\Hid (OwnX X w0 wr L S)/\Hid (Stay X w wr)/\Hid (S.Fit vars (V+k))/\Hid (S.du ((hs.map (·.l)).drop k)=cT));case atStart=>exact⟨0,L,S,by omega,rfl,HA0,af2,Stay.of (Fr.refl _ w),agj,dM⟩
 case round=>
  clear HA0 af2 agj dM;obtain⟨k,L,S,hk,rfl,zI,HOW,mE,HKP,dM⟩:=hrel;have HK:=aa hk;have jg:k<=hs.length:=by omega
  clear hk;by_cases bw:k<hs.length
  ·obtain⟨b,o,B,d,l,hA,hx,cx,ok⟩:=HH.out.one bw;have GR:(⟨B,d,l⟩:Ls)∈hs:=by rw[<-hx.out];exact a8 bw
   have e2:=mE.out.cell cx (NQ.out b (by rw[hA];simp[ak]));have e3:=(mE.out.at_ HD.out HG.out).cell 14;simp[qK]at e3;subst hA;have Ib:=HKP.out;have YW:=Ib.vars;have QU:ft S.vars l=0:=by rw[YW];exact Yh.out _ GR
   have rl:S.list.length<2199023255552:=by have :=Ib.list;omega
   have KA:=HOW.out.add Ib.ok B d l (HOW.out.B7 (mE.out.rd ok.1 (HXS.out _ GR)) (HXS.out _ GR)) ok.2.1 (fun h=>(ok.2.2.2 h).2) rl Ib.used;rw[NH,zI.out,QU]at KA;have u0:=GG bw;rw[hx.out]at u0;have fM:=dM.out;rw[u0,Sv.du]at fM;have oN:=aa fM;have Fu:=aa (Ib.add (by omega) ok.2.1);have KA:=aa KA;clear Ib YW QU rl u0 fM ok cx GR hx;go_wp2_with fail;refine KA.out.mono ?_;clear KA;rintro e w4 ⟨rfl,L4,XN,h4,s4⟩;have WE:=aa XN;have H4:=aa h4;have CF:=aa (mE.out.ag s4 HXL.out);clear h4 XN s4 e2 e3;go_wp2_with fail;go_roundg (gk-1);case measure=>have :=HK.out;omega
   case rel=>exact⟨k+1,L4,_,by have :=HK.out;omega,by go_num,WE,H4,CF,Fu,oN⟩
  ·obtain rfl :k=hs.length:=by omega
   have qc:Hid (S=cT):=by have :=dM.out;rw[List.drop_of_length_le (by simp)]at this;exact this
   clear HK dM;go_wp2_with fail;go_end0;exact⟨rfl,L,zI.out,qc.out▸HOW.out,mE.out⟩
def NvP (X:List Nat)(w0 w:World)(a:Nat)(Q:Sv->Int->Prop)(f:Bool->Bool)(e:Ending)(w':World):Prop:=∃(S':Sv) (r:Int),Q S' r/\S'.Ok 0/\e= .returned (.bool (f (r==2)))/\∃L',L'.a=a/\OwnX X w0 w' L' S'/\Stay X w w'
theorem sE {X:List Nat}{w0:World}(w:World)(L:aO)(S:Sv)(h:OwnX X w0 w L S)(ok:S.Ok 0)(g:Nat)(H:Qh)(q:Qn)(hd:At w g 83 (qK H q L.a))(A:Option Addr)(c:Nat)(us:List Int)(ta:CU w L A us)(mi:Ra us)(oy:us.length<=c)(zc:us.length<=1099511627776)
  (red:Bool)(rC:red=true->I7)(D C:Nat)(Q:Sv->Int->Prop)(Am:S.used<4611686018427387904)(hW:S.me red 1099511627776 us D C Q):
  Calls Tryz.prog 36 #[.pointer (some ⟨g,0,none⟩), .slice A us.length c] w (NvP X w0 w L.a Q id):=by
 have KS:=aa (h.solve red rC ok A c us ta mi oy zc 1099511627776 D C Q Am hW);have e3:=hd.cell 14;simp[qK]at e3;obtain⟨a,ha⟩:∃a,L.a=a:=⟨_,rfl⟩
 rw[ha]at KS e3⊢;clear h ok hd ta mi hW ha;go_enter Tryz.func36,Tryz.ntmps36;go_wp2_with fail;refine KS.out.mono ?_;clear KS;rintro e w2 ⟨S',r,hq,Et,rfl,L',hL,h2,hs⟩;have HQ:=aa hq;have lz:=aa Et;have H2:=aa h2;have HS:=aa hs;have HL:=aa hL;clear hq Et h2 hs hL e3;go_wp2_with fail;go_ret;exact⟨S',r,HQ.out,lz.out,rfl,L',HL.out,H2.out,HS.out⟩
theorem BN (w:World)(A:Option Addr)(c:Nat)(hs:List Ls)(g:Nat)(cb:Array Value)(P:Nat->World->Prop)(Z:World->Prop)(eg:∀args w,(callFunc g args).run Tryz.prog w= .ok (.enter g args) w)(hl:hs.length<=17592186044416)(h0:P 0 w)
  (hr:∀k W,k<hs.length->P k W->∃b o,A=some ⟨b,o,none⟩/\W.cell? ⟨b,o+k,none⟩=some (hs[k]!).val)
  (hp:∀k W,k<hs.length->P k W->Calls Tryz.prog g (#[(hs[k]!).val]++cb) W fun e w'=>∃q,e= .returned (.bool q)/\(if q=true then Z w' else P (k+1) w')):
  Calls Tryz.prog 51 #[.slice A hs.length c, .func (.func g) #[] cb] w fun e w'=>∃n:Int,e= .returned (.int .i64 n)/\ -1<=n/\n<=17592186044416/\(if 0<=n then Z w' else P hs.length w'):=by
 have HR:=aa hr;have HP:=aa hp;have H0:=aa h0;clear hr hp h0;go_enter Tryz.func51,Tryz.ntmps51;go_wp2_with fail;go_loopg [8] hs.length (fun gg i wr=>∃k:Nat,k+gg=hs.length/\i= .int .i64 k/\Hid (P k wr));case atStart=>exact⟨0,by omega,rfl,H0⟩
 case round=>
  clear H0;obtain⟨k,hk,rfl,HX⟩:=hrel;have HK:=aa hk;have jg:k<=hs.length:=by omega
  clear hk;by_cases bw:k<hs.length
  ·obtain⟨b,o,hA,cx⟩:=HR.out k wr bw HX.out;subst hA;have HC:=aa (HP.out k wr bw HX.out);obtain⟨⟨B,d,l⟩,hx⟩:∃x,hs[k]! =x:=⟨_,rfl⟩
   rw[hx]at cx HC;simp only[Ls.val]at cx HC;clear hx;go_wp2_with fail;refine HC.out.mono ?_;clear HC HX;rintro e w2 ⟨q,rfl,hq⟩;have HQ:=aa hq;clear hq;cases q with
   |true=>
    have HZ:Hid (Z w2):=HQ.out;clear HQ;go_wp2_with fail;go_ret;exact⟨k,rfl,by omega,by omega,by rw[aae (by omega)];exact HZ.out⟩
   |false=>
    have HZ:Hid (P (k+1) w2):=HQ.out;clear HQ;go_wp2_with fail;go_roundg (gk-1);case measure=>have :=HK.out;omega
    case rel=>exact⟨k+1,by have :=HK.out;omega,by go_num,HZ⟩
  ·obtain rfl :k=hs.length:=by omega
   clear HK;go_wp2_with fail;go_ret;exact⟨-1,rfl,by omega,by omega,by rw[aac (by omega)];exact HX.out⟩
theorem vc (w:World)(A:Option Addr)(c:Nat)(hs:List Ls)(g:Nat)(cb:Array Value)(P:Nat->World->Prop)(Z:World->Prop)(eg:∀args w,(callFunc g args).run Tryz.prog w= .ok (.enter g args) w)(hl:hs.length<=17592186044416)(h0:P 0 w)
  (hr:∀k W,k<hs.length->P k W->∃b o,A=some ⟨b,o,none⟩/\W.cell? ⟨b,o+k,none⟩=some (hs[k]!).val)
  (hp:∀k W,k<hs.length->P k W->Calls Tryz.prog g (#[(hs[k]!).val]++cb) W fun e w'=>∃q,e= .returned (.bool q)/\(if q=true then Z w' else P (k+1) w')):
  Calls Tryz.prog 24 #[.slice A hs.length c, .func (.func g) #[] cb] w fun e w'=>∃q,e= .returned (.bool q)/\(if q=true then Z w' else P hs.length w'):=by
 have HC:=aa (BN w A c hs g cb P Z eg hl h0 hr hp);clear h0 hr hp;go_enter Tryz.func24,Tryz.ntmps24;go_wp2_with fail;refine HC.out.mono ?_;rintro e w2 ⟨n,rfl,h1,h2,h3⟩;have H3:=aa h3;clear h3;go_wp2_with fail;go_ret;refine⟨decide (0<=n),rfl,?_⟩;have :=H3.out;by_cases h4:0<=n
 ·rw[aae h4]at this;rw[aae (by simpa using h4)];exact this
 ·rw[aac h4]at this;rw[aac (by simpa using h4)];exact this
theorem xH:∀args w,(callFunc 43 args).run Tryz.prog w= .ok (.enter 43 args) w:=enters_of Tryz.func43 (by kernel_rfl) rfl
theorem Ints.aaB {w:World}{A:Option Addr}{c:Nat}{xs:List Int}(hi:Ints w A c xs):xs.length<=c:=by
 rcases hi.form with⟨_,h1,h2⟩ |⟨g,_,_,h2,_⟩
 ·rw[h2];exact bR _
 ·exact h2
theorem xM {X:List Nat}{w0:World}(w:World)(L:aO)(S:Sv)(h:OwnX X w0 w L S)(ok:S.Ok 0)(g:Nat)(H:Qh)(q:Qn)(hd:At w g 83 (qK H q L.a))(hg:g∈X)(p:Nat)(hp:w.cell? ⟨p,0,none⟩=some (.pointer (some ⟨g,0,none⟩)))
  (A:Option Addr)(c:Nat)(l:List Int)(hr:Rd w A l)(Tk:∀x∈l,-1000000<=x/\x<=1000000)(hl:l.length<=1048576)
  (red:Bool) (rC:red=true->I7) (D C:Nat) (Q:Sv->Int->Prop) (Am:S.used<4611686018427387904) (hW:S.me red 1099511627776 (l.map fun x=> -x) D C Q):
  Calls Tryz.prog 43 #[.slice A l.length c, .pointer (some ⟨p,0,none⟩)] w (NvP X w0 w L.a Q not):=by
 have HP:=aa hp;have KNT:=aa (fun W (hW:Fr [] w W)=>IK W A c l (hr.keep hW) Tk hl);have HXW:=aa (fun k hk=>(h.fx k hk).1);have KNV:Hid (∀W2,Fr [] w W2->∀A3 c3,Ints W2 A3 c3 (l.map fun x=> -x)->(∀k,k∈ak A3->w.heap.size<=k)->Calls Tryz.prog 36 #[.pointer (some ⟨g,0,none⟩), .slice A3 l.length c3] W2 (NvP X w0 w L.a Q id)):=fun W2 hf A3 c3 hi hn=>by
  have hm:=h.more hf (Y:=ak A3) (fun k hk=>⟨hn k hk,hi.lt k hk⟩);have qj:=hf.at_ hd (by simp);have hlen:(l.map fun x=> -x).length=l.length:=aq ..;have mi:Ra (l.map fun x=> -x):=(eD (p:=eh)).2 fun x hx=>by obtain⟨y,hy,rfl⟩:=aG.1 hx;have :=Tk y hy;exact⟨by omega,by omega⟩
  have hc:=sE W2 (L.shut w) S hm ok g H q qj A3 c3 (l.map fun x=> -x) (hm.B7 hi.rd (fun k hk=>bk _ hk)) mi hi.aaB (by rw[hlen];omega) red rC D C Q Am hW;rw[hlen]at hc;refine hc.mono ?_;rintro e w4 ⟨S',r,k1,k2,k3,L',k4,k5,k6⟩;exact⟨S',r,k1,k2,k3,L',k4,k5.less (fun k hk=>an _ hk),(Stay.of hf).ag (k6.less (fun k hk=>an _ hk)) (fun k hk=>(h.fx k hk).1)⟩
 obtain⟨a,ha⟩:∃a,L.a=a:=⟨_,rfl⟩
 rw[ha]at KNV⊢;clear h ok hd hg hp hr Tk hW ha;go_enter Tryz.func43,Tryz.ntmps43;go_upto_region 1 with fail;refine aam ?_;refine bi (fun w':World=>Fr [] w w') 3 (by kernel_rfl) ((Fr.refl _ w).drew) (fun cZ=> ?_);apply TB 2 [(0,[0,3]),(1,[])];kernel_rfl;rfl;· (repeat (apply eH;rfl;rfl;(· intro w bl;(try(have bl:=bl.resolve_left (aF _ _);(have s1:=bl.aN HP.out)));go_simp<;>with_reducible rfl);try simp only[Act.put,q5,q6,q7]));exact eG
 exact cZ;intro cZ;refine R2 2 (by kernel_rfl) (by rfl) cZ fun K hK aw=> ?_
 (go_simp;refine(KNT.out _ aw).mono ?_;rintro e w3 ⟨A3,c3,rfl,hi3,Oo,dh⟩;dsimp only);have WF:=aa hi3;have om:=aa Oo;have db:=aa dh;clear hi3 Oo dh
 refine hK.out _ _ (.inr ?_) (fun u7=> ?_)
 ·first |exact aw.ag db.out |exact aw
 clear hK K;try simp only[Act.put,q5,q6,q7]
 refine R2 3 (by kernel_rfl) (by rfl) u7 fun K hK aw=> ?_
 (go_simp;refine(KNV.out _ aw _ _ WF.out om.out).mono ?_;rintro e w4 ⟨S',r,hq,Et,rfl,L',hL,h4,Hq⟩;dsimp only)
 refine hK.out _ _ (.inl rfl) (fun iS=> ?_);clear hK K;try simp only[Act.put,q5,q6,q7]
 apply TB 1 [(4,[])];kernel_rfl;rfl;· (repeat (apply eH;rfl;rfl;(· intro w bl;go_simp<;>with_reducible rfl);try simp only[Act.put,q5,q6,q7]));exact eG
 exact iS;intro iS;refine R1 (i:=5) (o:= ?an2) (by kernel_rfl) (by rfl) ?_;intro K hK;go_simp;refine hK.out _ _ (.inl rfl) (fun u6=> ?_);clear hK K;try simp only[Act.put,q5,q6,q7]
 refine aD (by kernel_rfl) ?_ _;refine NoPanic.normal ?_;have HQ:=aa hq;have lz:=aa Et;have HL:=aa hL;have H4:=aa h4;have CF:=aa Hq;clear hq Et hL h4 Hq;go_wp2_with fail;go_ret;exact⟨S',r,HQ.out,lz.out,rfl,L',HL.out,H4.out,CF.out⟩
def Jw (us:List Int)(I J Z:Sv->Prop):Prop:=∀S,I S->S.used<4611686018427387904/\∃(red:Bool) (_:red=true->I7) (D C:Nat) (Q:Sv->Int->Prop),S.me red 1099511627776 us D C Q/\∀S' r,Q S' r->if r=2 then J S' else Z S'
def FoP (X:List Nat)(w0 w:World)(a:Nat)(J Z:Sv->Prop)(e:Ending)(w':World):Prop:=∃(S':Sv) (b:Bool),e= .returned (.bool b)/\S'.Ok 0/\(if b=true then J S' else Z S')/\∃L',L'.a=a/\OwnX X w0 w' L' S'/\Stay X w w'
theorem lq {X:List Nat}{w0:World}(w:World)(L:aO)(S:Sv)(h:OwnX X w0 w L S)(ok:S.Ok 0)(g:Nat)(H:Qh)(q:Qn)(hd:At w g 83 (qK H q L.a))(hg:g∈X)(m8:fH w H.H q.C)(hv:Valid q.C)(f:Int)(hf:0<=f/\f<=80)
  (A:Option Addr)(c:Nat)(ls:List Ls)(hr:j3 w A ls)(hl:∀x∈ls,fU q.C x.l)(hn:ls.length<=1024)(I:Nat->Sv->Prop)(Z:Sv->Prop)(h0:I 0 S)(hI:∀k,k<ls.length->Jw (((ls[k]!).l.map (jp q.C f)).map fun x=> -x) (I k) (I (k+1)) Z):
  Calls Tryz.prog 22 #[.pointer (some ⟨g,0,none⟩), .slice A ls.length c, .int .i64 f] w (FoP X w0 w L.a (I ls.length) Z):=by
 obtain⟨w1,dP⟩:∃W,w.alloc (.cells #[.pointer (some ⟨g,0,none⟩)] 51)=W:=⟨_,rfl⟩
 have cX:Fr [] w w1:=dP▸aH _ _;have hp1:w1.cell? ⟨w.heap.size,0,none⟩=some (.pointer (some ⟨g,0,none⟩)):=by rw[<-dP];exact(At.new w 51 #[.pointer (some ⟨g,0,none⟩)]).cell 0
 have oI:w1.heap.size=w.heap.size+1:=by rw[<-dP];simp
 obtain⟨a,ha⟩:∃a,L.a=a:=⟨_,rfl⟩
 have CV:=aa (tV w1 g L.a H q (cX.at_ hd (by simp)) (m8.keep cX) hv f hf A c ls (hr.keep cX) hl hn);have HXW:=aa (fun k hk=>(h.fx k hk).1);have KCF:Hid (∀W A2 c2 (hs:List Ls),Fr [] w1 W->NwLs W w1.heap.size A2 c2 hs->hs.map (·.l)=(ls.map (·.l)).map (fun l=>l.map (jp q.C f))->Calls Tryz.prog 24 #[.slice A2 hs.length c2, .func (.func 43) #[] #[.pointer (some ⟨w.heap.size,0,none⟩)]] W fun e w'=>∃q,e= .returned (.bool q)/\∃S':Sv,S'.Ok 0/\(if q=true then Z S' else I ls.length S')/\∃L',L'.a=L.a/\OwnX X w0 w' L' S'/\Stay X w w'):=fun W A2 c2 hs hW hnw hm=>by
  have hWw:Fr [] w W:=cX.ag hW;have hlen:hs.length=ls.length:=by have :=aao List.length hm;simpa using this
  obtain⟨Y,hY⟩:∃Y:List Nat,Y=w.heap.size::zN A2 hs:=⟨_,rfl⟩
  have Kc:=h.more hWw (Y:=Y) (fun k hk=>by
   rw[hY]at hk;rcases av.1 hk with rfl |hk
   ·exact⟨ap _,by have :=hW.size;omega⟩
   ·have :=hnw.marks k hk;omega)
  have key:∀k,k<hs.length->(hs[k]!).l=(ls[k]!).l.map (jp q.C f):=fun k hk=>by have :=aao (fun x:List (List Int)=>x[k]?) hm;simp only[aJ,af hk,af (show k<ls.length by omega),cD,Option.some.injEq]at this;rw[ae,ae,af hk,af (show k<ls.length by omega),ay,ay];exact this
  have hc:=vc W A2 c2 hs 43 #[.pointer (some ⟨w.heap.size,0,none⟩)]
   (fun k W'=>∃S':Sv,S'.Ok 0/\I k S'/\∃L',L'.a=L.a/\OwnX (X++Y) w0 W' L' S'/\Stay (X++Y) W W')
   (fun W'=>∃S':Sv,S'.Ok 0/\Z S'/\∃L',L'.a=L.a/\OwnX (X++Y) w0 W' L' S'/\Stay (X++Y) W W') xH (by omega) ⟨S,ok,h0,L.shut w,rfl,Kc,Stay.of (Fr.refl _ _)⟩
   (fun k W' hk ⟨S',_,_,L',_,_,gU⟩=>by obtain⟨b,o,hA,hc⟩:=hnw.JT.1 (by omega);exact⟨b,o,hA,gU.cell (hc k hk) (by rw[hY,hA];simp[zN,ak])⟩)
   (fun k W' hk ⟨S',ok',hI',L',hL',ho',gU⟩=>by
    have oJ:k<ls.length:=(by omega)
    have GR:hs[k]! ∈hs:=a8 hk;have jZ:=hl _ (a8 oJ);obtain⟨u1,red,rC,D,C,Q,Kl,hQ⟩:=hI k oJ S' hI';have ta:=(hnw.JT.2 k hk).1;have xm:∀x∈(hs[k]!).l,-1000000<=x/\x<=1000000:=fun x hx=>by rw[key k hk]at hx;obtain⟨y,hy,rfl⟩:=aG.1 hx;exact vx hv (by omega) (jZ.2 y hy)
    have qh:(hs[k]!).l.length<=1048576:=by rw[key k hk,aq];have :=jZ.1;omega
    have ak6:=xM W' L' S' ho' ok' g H q (by rw[hL'];exact gU.at_ (hWw.at_ hd (by simp)) (an _ hg)) (an _ hg) w.heap.size (gU.cell (hW.aN hp1) (by rw[hY];simp)) (hs[k]!).A (hs[k]!).c (hs[k]!).l (gU.rd ta (fun j hj=>bk _ (by rw[hY];exact aY _ (bk _ (fv.2 ⟨_,GR,hj⟩))))) xm qh red rC D C Q u1 (by rw[key k hk];exact Kl);refine ak6.mono ?_;rintro e W2 ⟨S2,r,k1,k2,rfl,L2,k3,k4,k5⟩;have UE:=gU.ag k5 (fun j hj=>(Kc.fx j hj).1);have hq:=hQ S2 r k1;refine⟨!(r==2),rfl,?_⟩;by_cases h2:r=2
    ·rw[aae h2]at hq;rw[aac (by simp[h2])];exact⟨S2,k2,hq,L2,k3.trans hL',k4,UE⟩
    ·rw[aac h2]at hq;rw[aae (by simpa using h2)];exact⟨S2,k2,hq,L2,k3.trans hL',k4,UE⟩)
  have fin:∀{W':World} {L':aO} {S':Sv},OwnX (X++Y) w0 W' L' S'->Stay (X++Y) W W'->OwnX X w0 W' L' S'/\Stay X w W':=fun h1 h2=>
   ⟨h1.less (fun k hk=>an _ hk),(Stay.of hWw).ag (h2.less (fun k hk=>an _ hk)) HXW.out⟩
  refine hc.mono ?_;rintro e W' ⟨q,rfl,hq⟩;refine⟨q,rfl,?_⟩;cases q with
  |true=>
   obtain⟨S',k1,k2,L',k3,k4,k5⟩:=hq;exact⟨S',k1,k2,L',k3,fin k4 k5⟩
  |false=>
   obtain⟨S',k1,k2,L',k3,k4,k5⟩:=hq;exact⟨S',k1,by rw[<-hlen];exact k2,L',k3,fin k4 k5⟩
 rw[ha]at KCF⊢;clear h ok hd hg m8 hv hr hl h0 hI cX ha;go_enter Tryz.func22,Tryz.ntmps22;go_wp2_with fail;refine CV.out.mono ?_;clear CV;rintro e w2 ⟨A2,c2,hs,rfl,qE,sm,bW⟩;have KC2:=aa (KCF.out w2 A2 c2 hs bW qE sm);clear KCF qE sm bW;go_wp2_with fail;refine KC2.out.mono ?_;clear KC2;rintro e w3 ⟨b,rfl,S',k1,k2,L',k3,k4,k5⟩;have K1:=aa k1;have K2:=aa k2;have K3:=aa k3;have K4:=aa k4;have K5:=aa k5;clear k1 k2 k3 k4 k5;go_wp2_with fail;go_ret;refine⟨S', !b,rfl,K1.out,?_,L',K3.out,K4.out,K5.out⟩;have :=K2.out;cases b
 ·exact this
 ·exact this
theorem wK:∀(n:Nat) (v:Int) (H:Hp),HI H->1<=v->v+n<=H.at_.length->(∀y∈H.items,y∈(Sv.iH n v H).items)/\(∀x:Int,v<=x->x<v+n->x∈(Sv.iH n v H).items)/\∀y∈(Sv.iH n v H).items,y∈H.items\/v<=y
 |0,v,H,h,h1,h2=>⟨fun y hy=>hy,fun x h3 h4=>by omega,fun y hy=> .inl hy⟩
 |n+1,v,H,h,h1,h2=>by
  have hk:=h.fC v;obtain⟨g1,g2,g3⟩:=wK n (v+1) (Sv.fC H v) hk.1 (by omega) (by rw[hk.2];omega);rw[Sv.iH];refine⟨fun y hy=>g1 y (uf h v hy),fun x h3 h4=> ?_,fun y hy=> ?_⟩
  ·by_cases e:x=v
   ·rw[e];exact g1 v (DC h (by omega) (by omega))
   ·exact g2 x (by omega) (by omega)
  ·rcases g3 y hy with h5 |h5
   ·rcases z8 h v y h5 with h6 |h6
    ·exact .inl h6
    ·exact .inr (by omega)
   ·exact .inr (by omega)
namespace Sv
theorem aaL {S:Sv}(ok:S.Ok 0)(n:Nat)(hb:S.vars+n<=262143):(S.grow n).R=S.R/\(S.grow n).T.levels.length=S.T.levels.length:=by have h:=ok.rep.grow n (by omega);exact⟨Wd (S:=S.grow n) h,h.dep⟩
theorem O1 {S:Sv}(ok:S.Ok 0)(n:Nat)(hb:S.vars+n<=262143)(x:Int):(S.grow n).val x=S.val x:=by have h1:=(ok.grow n hb).rep;have h2:=ok.rep;rw[(aaL ok n hb).1]at h1;unfold val;rw[h1.lB,h2.lB]
theorem Hc.grow {S:Sv}(h:S.Hc)(ok:S.Ok 0)(n:Nat)(hb:S.vars+n<=262143):(S.grow n).Hc:=by
 have hg:HI (S.H.ew n)/\(S.H.ew n).at_.length=S.vars+n+1:=by rw[pV ok.hl hb];refine⟨ok.hi.grow n,?_⟩;have :=ok.hl;simp only[Hp.growBy,aj,aW];omega
 have hit:(S.H.ew n).items=S.H.items:=by rw[pV ok.hl hb];rfl
 obtain⟨g1,g2,g3⟩:=wK n ((S.vars:Int)+1) (S.H.ew n) hg.1 (by omega) (by rw[hg.2];omega);rw[hit]at g1 g3;refine⟨fun v h1 h2 h3=> ?_,fun x hx=> ?_⟩
 ·rw[O1 ok n hb]at h3;have h2:v<=((S.vars+n:Nat):Int):=h2;by_cases e:v<=S.vars
  ·exact g1 v (h.all v h1 e h3)
  ·exact g2 v (by omega) (by omega)
 ·rcases g3 x hx with h4 |h4
  ·exact h.pos x h4
  ·omega
variable {few:Prop} {W:List Int}
theorem cR.iff {S:Sv}{F G:(Nat->Bool)->Prop}(h:S.cR F)(hi:∀a,F a↔G a):S.cR G:=
 ⟨fun a ha=>h.sound a ((hi a).2 ha),fun hb a ha=>h.bad hb a ((hi a).2 ha),fun hb a ha=>(hi a).1 (h.full hb a ha)⟩
theorem iT.iff {S:Sv}{F G:(Nat->Bool)->Prop}{vars U V:Nat}(h:iT few W F vars U V S)(hi:∀a,F a↔G a):iT few W G vars U V S:=
 ⟨h.inv,h.ct,h.hc,h.kn.iff hi,h.iW,h.vars,h.used,h.list,h.bump,h.lim⟩
theorem iT.new (V:Nat)(hV:V<=262143):iT few W (fun _=>True) V 0 0 (Sv.new (V:Int)):=by
 obtain⟨i1,i2,i3,i4,i5,i6,i7⟩:=Inv.new (V:Int);have hv:=(Sv.Ok.new (V:Int)).2;have UA:(Sv.new (V:Int)).vars=V:=by rw[hv];omega
 have hR:(Sv.new (V:Int)).R=[]:=rfl;have eE:∀n,(Sv.new (V:Int)).rc n=⟨[],false,0⟩:=fun n=>nD (bR _);have Ni:(Sv.new (V:Int)).LL=[]:=rfl;have Om:bare.Ok 0:=by have :=(Sv.Ok.new 0).1;exact this
 have oM:bare.Hc:=⟨fun v h1 h2=>by have h2:v<=((0:Nat):Int):=h2;omega,fun x hx=>by cases hx⟩
 refine⟨i1,i2,oM.grow Om _ (by show 0+_<=_;omega),cR.new _,⟨fun n m h1=>by rw[la,eE]at h1;exact absurd h1.1 (by simp),by rw[i3,Ni];rfl,fun _ n x hx=>by rw[eE]at hx;cases hx⟩,UA,by rw[i6];omega,by rw[i5];exact ap _,by rw[i7];decide,by rw[i4];decide⟩
theorem qR.attach {S:Sv}(h:S.qR few W)(hi:S.Inv){l:List Int}(hf:S.Fits l)(hd:(l.map tv).Nodup)(hr:S.list.length<2199023255552)(Vk:few->∀x∈l,x∈W):(S.attach l false).qR few W/\(S.attach l false).LL=S.LL:=by
 obtain⟨k1,k2,k3⟩:=hi.attach hf hd false hr;have hlen:(S.attach l false).list.length=S.list.length+1:=(cE S l false).2.2.1;have so:∀n,n≠S.list.length->(S.attach l false).fg n=S.fg n:=fun n hn=>by unfold fg;rw[k3 n hn]
 have lF:(S.attach l false).fg S.list.length=false:=by unfold fg;rw[k2];rfl
 have Ni:(S.attach l false).LL=S.LL:=by unfold LL;rw[hlen,List.range_succ,List.filter_append,List.filter_cons,lF,List.filter_nil];simp only[dD,if_false,bZ];refine List.filter_congr fun n hn=>so n ?_;have :=cH.1 hn;omega
 refine⟨⟨fun n m n1 n2 n3=> ?_,by rw[Ni];exact h.many,fun hf n x hx=> ?_⟩,Ni⟩
 rotate_left
 ·by_cases en:n=S.list.length
  ·rw[en,k2]at hx;exact Vk hf x hx
  ·rw[k3 n en]at hx;exact h.YT hf n x hx
 have en:n≠S.list.length:=fun e=>by rw[e,lF]at n1;cases n1
 have em:m≠S.list.length:=fun e=>by rw[e,lF]at n2;cases n2
 rw[so n en]at n1;rw[so m em]at n2;refine h.dl n m n1 n2 fun x=> ?_;have :=n3 x;rw[k3 n en,k3 m em]at this;exact this
structure AdS (few:Prop)(W:List Int)(S S':Sv):Prop where
 H:S'.H=S.H
 R:∃Z,S'.R=S.R++Z
 LL:S'.LL=S.LL
 iW:S'.qR few W
theorem AdS.acM {S:Sv}(h:S.qR few W):AdS few W S S.bI:=⟨rfl,⟨[],by rw[bZ];rfl⟩,rfl,h.same (fun n=>⟨rfl,rfl⟩) rfl rfl⟩
theorem I0 {S:Sv}(h:S.Inv)(hc:S.qR few W){out:List Int}(h1:out.length<=1048576)(hl:∀x∈out,x≠0/\ -(S.vars:Int)<=x/\x<=S.vars)(hd:(out.map tv).Nodup)(Vk:few->∀x∈out,x∈W)(hv:∀x∈out,S.val x=0)(hr:S.list.length<2199023255552):AdS few W S (S.ia out):=by
 unfold Sv.ia;by_cases e0:out.length=0
 ·rw[aae e0];exact⟨rfl,⟨[],by rw[bZ];rfl⟩,rfl,hc.same (fun n=>⟨rfl,rfl⟩) rfl rfl⟩
 ·rw[aac e0];have hm:=get_mem (l:=out) (i:=0) (by omega);by_cases e1:out.length=1
  ·rw[aae e1];have ht:=qt (hl _ hm).1 (hl _ hm).2.1 (hl _ hm).2.2 h.ok.vl;have hR:=ol (r:=0) h.ok (i9 h.ok ht.1 ht.2 (hv _ hm));exact⟨rfl,⟨_,hR⟩,rfl,hc.same (fun n=>⟨rfl,rfl⟩) rfl rfl⟩
  ·rw[aac e1];obtain⟨k1,k2⟩:=hc.attach h ⟨by omega,h1,hl⟩ hd hr Vk;have hs:=cE S out false;exact⟨hs.2.2.2.2.2,⟨[],by rw[bZ];exact dJ hs.1⟩,k2,k1⟩
theorem NI {S:Sv}(h:S.Inv)(hc:S.qR few W){l:List Int}(mi:Ra l)(hr:S.list.length<2199023255552)(B4:ft S.vars l=0)(Vk:few->∀x∈l,x∈W):AdS few W S (S.fT l).1:=by
 unfold Sv.fT;rw[aae B4];by_cases hs:S.n9 (nrm l)=true
 ·rw[aae hs];exact AdS.acM hc
 ·rw[aac hs];obtain⟨h1,h2⟩:=pk (S:=S) mi B4;have hs:S.n9 (nrm l)=false:=by simpa using hs
  unfold n9 at hs;rw[dX]at hs;have yH:=pX mi B4;have hd:=wN (l:=l) (v:=S.vars) (fun x hx=>(yH.2 x (lS hx).1).2) h.ok.vl hs.1;have k:=I0 (S:=S.bI) h.bI (hc.same (fun n=>⟨rfl,rfl⟩) rfl rfl) (out:=S.leftOf (nrm l)) (by omega) h2 (by
   unfold leftOf;exact hd.sublist (List.Sublist.map tv (List.filter_sublist))) (fun hf x hx=>by
   unfold leftOf at hx;exact Vk hf x (lS (dx.1 hx).1).1) (fun x hx=>by
   unfold leftOf at hx;rw[dx]at hx;have h3:¬S.val x<0:=by simpa using hx.2
   have h4:¬0<S.val x:=fun h5=>by have :(nrm l).any (fun x=>decide (0<S.val x))=true:=cq.2 ⟨x,hx.1,by simpa using h5⟩;rw[this]at hs;cases hs.2
   show S.val x=0;omega) hr
  exact⟨k.H,k.R,k.LL,k.iW⟩
theorem iT.fT {S:Sv}{F:(Nat->Bool)->Prop}{vars U V:Nat}(h:iT few W F vars U V S){l:List Int}(mi:Ra l)(hr:S.list.length<2199023255552)(B4:ft S.vars l=0)(Vk:few->∀x∈l,x∈W):iT few W (fun a=>F a/\lG a l) vars U (V+1) (S.fT l).1:=by obtain⟨k1,k2⟩:=h.inv.fT h.ct mi hr;obtain⟨m1,m2,m3,m4,m5⟩:=AE S l;have hv:=(h.inv.ok.fT mi hr).2;have hs:=NI h.inv h.iW mi hr B4 Vk;obtain⟨Z,hZ⟩:=hs.R;have h2:=h.list;have h3:=h.lim;exact⟨k1,k2,h.hc.mono h.inv.ok k1.ok hv (fun y=>by rw[hs.H]) (fun e he=>by rw[hZ];exact an _ he),h.kn.fT h.inv h.ct mi hr B4,hs.iW,hv.trans h.vars,by rw[m1];exact h.used,by omega,by rw[m2];exact h.bump,by rw[m4];omega⟩
end Sv
namespace Sv
variable {few:Prop} {W:List Int}
theorem iT.du {vars U:Nat}:∀{ls:List (List Int)} {S:Sv} {F:(Nat->Bool)->Prop} {V:Nat},iT few W F vars U V S->V+ls.length<=8388608->(∀c∈ls,Ra c/\ft vars c=0/\(few->∀x∈c,x∈W))->iT few W (fun a=>F a/\∀c∈ls,lG a c) vars U (V+ls.length) (S.du ls)
 |[],S,F,V,h,_,_=>h.iff fun a=>⟨fun ha=>⟨ha,fun c hc=>by cases hc⟩,fun ha=>ha.1⟩
 |c::r,S,F,V,h,hl,hc=>by
  obtain⟨h1,h2,h3⟩:=hc c bD;simp only[cW]at hl⊢;have zd:=h.list;have hk:=iT.du (h.fT h1 (by omega) (by rw[h.vars];exact h2) h3) (by omega:V+1+r.length<=_) (fun d hd=>hc d (aY _ hd));rw[show V+(r.length+1)=V+1+r.length by omega];refine hk.iff fun a=>⟨fun⟨⟨h3,h4⟩,h5⟩=>⟨h3,fun d hd=> ?_⟩,fun⟨h3,h4⟩=>⟨⟨h3,h4 c bD⟩,fun d hd=>h4 d (aY _ hd)⟩⟩
  rcases av.1 hd with rfl |hd
  ·exact h4
  ·exact h5 d hd
end Sv
def je (s:List UInt8)(n:Int):Bool:=decide (1<=tv n)&&decide (tv n<=s.length)&&((s[(tv n-1).toNat]! ==49)==decide (0<n))
def Od (l:List (List Int))(s:List UInt8):Bool:=l.all fun c=>c.any (je s)
def kk:Nat->List (List UInt8)
 |0=>[[]]
 |n+1=>(kk n).flatMap fun s=>[s++[48],s++[49]]
theorem se:∀{n:Nat} {s:List UInt8},s∈kk n->s.length=n
 |0,s,h=>by
  rw[kk,ai]at h;rw[h];rfl
 |n+1,s,h=>by rw[kk,fv]at h;obtain⟨t,ht,h⟩:=h;have :=se ht;simp only[av,cd,or_false]at h;rcases h with rfl |rfl <;>simp[this]
theorem Lc (f:Nat->Bool):∀n:Nat,((List.range n).map fun i=>if f i=true then(49:UInt8)else 48)∈kk n
 |0=>by simp[kk]
 |n+1=>by rw[kk,fv];refine⟨_,Lc f n,?_⟩;rw[List.range_succ,bH];simp only[cj,dv];split<;>simp
def mh (C:Pc)(i:Nat):Nat:=((C.aM[i]!).a/2+1).toNat
def Agr (C:Pc)(a:Nat->Bool)(s:List UInt8):Prop:=s.length=C.aM.length/\∀i:Nat,i<C.aM.length->(s[i]! =49↔a (mh C i)=true)
theorem PU {C:Pc}(hv:Valid C){i j:Nat}(hi:i<C.aM.length)(hj:j<C.aM.length)(h:mh C i=mh C j):i=j:=by
 have key:∀i j:Nat,i<j->j<C.aM.length->mh C i≠mh C j:=fun i j tM hj h=>by
  have h1:=eX hv i (by omega);have h2:=eX hv j hj;unfold mh at h;have e:(C.aM[i]!).a=(C.aM[j]!).a:=by omega
  have hl:(cK C).length=C.ins.length+C.aM.length+C.az.length:=by simp[cK];omega
  have ho:=hv.own (C.ins.length+j) (by omega);unfold kZ at ho;simp only[ax,j6,decide_eq_false_iff_not]at ho;have get:∀k:Nat,k<C.aM.length->(cK C)[C.ins.length+k]? =some (C.aM[k]!).a:=fun k hk=>by unfold cK;rw[jP,eO (by omega),Nat.add_sub_cancel_left,cJ (by simpa using hk),aJ,af hk,ae,af hk];rfl
  refine ho.2 ?_;rw[ae,get j hj,ay,<-e,List.mem_iff_getElem?];exact⟨C.ins.length+i,by rw[List.getElem?_take,aae (by omega),get i (by omega)]⟩
 rcases Nat.lt_trichotomy i j with h1 |h1 |h1
 ·exact absurd h (key i j h1 hj)
 ·exact h1
 ·exact absurd h.symm (key j i h1 hi)
theorem NF {C:Pc}(a:Nat->Bool):∃s∈kk C.aM.length,Agr C a s:=by
 refine⟨_,Lc (fun i=>a (mh C i)) C.aM.length,by simp,fun i hi=> ?_⟩;rw[ae,aJ,nc hi];simp only[cD,ay];split
 ·rename_i h;simp[h]
 ·rename_i h;simp[h]
theorem aaI {C:Pc}(hv:Valid C){s:List UInt8}(h:s∈kk C.aM.length):∃a,Agr C a s:=by
 refine⟨fun v=>(List.range C.aM.length).any fun i=>decide (mh C i=v)&&s[i]! ==49,se h,fun i hi=>⟨fun h1=> ?_,fun h1=> ?_⟩⟩
 ·exact cq.2 ⟨i,cH.2 hi,by simp[h1]⟩
 ·obtain⟨j,hj,h2⟩:=cq.1 h1;rw[ax,aal]at h2;have :=PU hv (cH.1 hj) hi h2.1;rw[<-this];simpa using h2.2
theorem DX {C:Pc}(hv:Valid C){n:Int}(hn:n≠0/\ -(C.aM.length:Int)<=n/\n<=C.aM.length):jp C 0 n=if n<0 then -((mh C (tv n-1).toNat:Nat):Int)else((mh C (tv n-1).toNat:Nat):Int):=by
 have xo:=hv.l;have ht:1<=tv n/\tv n<=C.aM.length:=by unfold tv;omega
 obtain⟨i,hi⟩:∃i:Nat,tv n=i+1:=⟨(tv n-1).toNat,by omega⟩
 have e1:(tv n-1).toNat=i:=by omega
 have hp:=eX hv i (by omega);have hb:fF C 0=0:=by unfold fF;exact Int.zero_mul _
 have e2:dE 0 (C.aM[i]!).a=((mh C i:Nat):Int):=by unfold dE mh;rw[aac (by omega)];omega
 unfold jp;rw[hb,e1];by_cases tK:n<0
 ·rw[aae tK,aae tK,show(-n-1).toNat=i by unfold tv at e1;omega,e2]
 ·rw[aac tK,aac tK,show(n-1).toNat=i by unfold tv at e1;omega,e2]
theorem J2 {C:Pc}(hv:Valid C){a:Nat->Bool}{s:List UInt8}(h:Agr C a s){n:Int}(hn:n≠0/\ -(C.aM.length:Int)<=n/\n<=C.aM.length):je s n=true↔mD a (jp C 0 n):=by
 have xo:=hv.l;have ht:1<=tv n/\tv n<=C.aM.length:=by unfold tv;omega
 obtain⟨i,hi⟩:∃i:Nat,tv n=i+1:=⟨(tv n-1).toNat,by omega⟩
 have m7:i<C.aM.length:=by omega
 have e1:(tv n-1).toNat=i:=by omega
 have hs:=h.2 i m7;have hp:=eX hv i m7;have hl:jp C 0 n=if n<0 then -((mh C i:Nat):Int)else((mh C i:Nat):Int):=by have :=DX hv hn;rw[e1]at this;exact this
 have hlp:0<mh C i:=by unfold mh;omega
 unfold je mD;rw[e1,hl,aai ht.1,aai (by rw[h.1];exact ht.2:tv n<=s.length),fX,fX,beq_iff_eq];by_cases tK:n<0
 ·rw[aae tK,Int.natAbs_neg,Int.natAbs_natCast,aah (by omega),aar];have :¬(0:Int)< -((mh C i:Nat):Int):=by omega
  simp only[this,iff_false,ne_eq,hs]
 ·rw[aac tK,Int.natAbs_natCast,aai (by omega),beq_iff_eq];have :(0:Int)<((mh C i:Nat):Int):=by omega
  simp only[this,iff_true,hs]
theorem Cy {C:Pc}(hv:Valid C){a:Nat->Bool}{s:List UInt8}(h:Agr C a s){c:List Int}(hc:fU C c):c.any (je s)=true↔lG a (c.map (jp C 0)):=by rw[cq];refine⟨fun⟨n,hn,h1⟩=>⟨_,aG.2 ⟨n,hn,rfl⟩,(J2 hv h (hc.2 n hn)).1 h1⟩,fun⟨y,hy,h1⟩=> ?_⟩;obtain⟨n,hn,rfl⟩:=aG.1 hy;exact⟨n,hn,(J2 hv h (hc.2 n hn)).2 h1⟩
def jD (C:Pc)(ls:List (List Int))(x:List Int):Bool:=(kk C.aM.length).all fun s=> !Od ls s ||x.any (je s)
theorem MN {few:Prop}{C:Pc}(hv:Valid C){ls:List (List Int)}{x:List Int}(kf:∀c∈ls,fU C c)(hx:fU C x){vars:Nat}{S:Sv}{r:Int}(hr:few)
  (h:Sv.WR few ((x.map (jp C 0)).map fun y=> -y) (fun a=>∀c∈ls.map (fun l=>l.map (jp C 0)),lG a c) vars S r):(r==2)=jD C ls x:=by
 have hF:∀a s,Agr C a s->((∀c∈ls.map (fun l=>l.map (jp C 0)),lG a c)↔Od ls s=true):=fun a s hs=>by unfold Od;rw[ep];exact⟨fun h c hc=>(Cy hv hs (kf c hc)).2 (h _ (aG.2 ⟨c,hc,rfl⟩)),fun h c hc=>by obtain⟨d,hd,rfl⟩:=aG.1 hc;exact(Cy hv hs (kf d hd)).1 (h d hd)⟩
 have hU:∀a s,Agr C a s->((∀u∈(x.map (jp C 0)).map (fun y=> -y),mD a u)↔¬x.any (je s)=true):=fun a s hs=>by
  rw[Cy hv hs hx];refine⟨fun h ⟨y,hy,ht⟩=> ?_,fun h u hu=> ?_⟩
  ·have :=h (-y) (aG.2 ⟨y,hy,rfl⟩);obtain⟨n,hn,rfl⟩:=aG.1 hy;rw[mD.neg ((tG hv (f:=0) (by omega) (hx.2 n hn)).1)]at this;exact this ht
  ·obtain⟨y,hy,rfl⟩:=aG.1 hu;obtain⟨n,hn,rfl⟩:=aG.1 hy;rw[mD.neg ((tG hv (f:=0) (by omega) (hx.2 n hn)).1)];exact fun ht=>h ⟨_,hy,ht⟩
 unfold jD;rcases h with⟨_,_,h3⟩ |⟨rfl,_,_,hm,ha⟩ |⟨rfl,_,rE,Y5,_⟩
 ·exact absurd hr h3
 ·obtain⟨k1,k2⟩:=ha (fun v=>S.model[v]!) (fun v _ _=>rfl);obtain⟨s,hs,hag⟩:=NF (C:=C) (fun v=>S.model[v]!)
  symm
  rw[show((1:Int)==2)=false from rfl,List.all_eq_false];refine⟨s,hs,?_⟩;rw[(hF _ s hag).1 k1,nf.2 ((hU _ s hag).1 k2)];simp
 ·symm
  rw[show((2:Int)==2)=true from rfl,ep];intro s hs;obtain⟨a,hag⟩:=aaI hv hs;by_cases h1:Od ls s=true
  ·rw[h1,Bool.not_true,Bool.false_or];by_cases h2:x.any (je s)=true
   ·exact h2
   ·exact absurd (fun u hu=>(hU a s hag).2 h2 u (Y5 u hu)) (rE a ((hF a s hag).2 h1))
  ·rw[nf.2 h1];rfl
structure zz where
  A:Option Addr
  c:Nat
  hs:List Ls
instance:Inhabited zz:=⟨⟨none,0,[]⟩⟩
def zz.val (x:zz):Value:= .slice x.A x.hs.length x.c
def zz.cl (x:zz):List (List Int):=x.hs.map (·.l)
structure CB (w:World)(A:Option Addr)(xs:List zz):Prop where
  cells:0<xs.length->∃b o,A=some ⟨b,o,none⟩/\∀j:Nat,j<xs.length->w.cell? ⟨b,o+j,none⟩=some (xs[j]!).val
  rd:∀x∈xs,j3 w x.A x.hs
  old:∀x∈xs,∀k∈zN x.A x.hs,k<w.heap.size
theorem CB.keep {w w':World}{A:Option Addr}{xs:List zz}(h:CB w A xs)(hf:Fr [] w w'):CB w' A xs:=
  ⟨fun h0=>by obtain⟨b,o,hA,hc⟩:=h.cells h0;exact⟨b,o,hA,fun j hj=>hf.aN (hc j hj)⟩,fun x hx=>(h.rd x hx).keep hf,fun x hx k hk=>aK (h.old x hx k hk) hf.size⟩
theorem CB.nil (w:World)(A:Option Addr):CB w A []:=⟨fun h=>absurd h (Nat.lt_irrefl _),(fun x hx=>(by cases hx)),(fun x hx=>(by cases hx))⟩
theorem drop_cons {α:Type}[Inhabited α]{xs:List α}{k:Nat}(h:k<xs.length):xs.drop k=xs[k]! ::xs.drop (k+1):=by rw[List.drop_eq_getElem_cons h,ae,af h];rfl
theorem Sv.Fit.du {vars:Nat}:∀{ls:List (List Int)} {S:Sv} {V:Nat},S.Fit vars V->V+ls.length<=8388608->(∀c∈ls,Ra c)->(S.du ls).Fit vars (V+ls.length)
  |[],S,V,h,_,_=>h
  |c::r,S,V,h,hl,hr=>by simp only[cW]at hl⊢;have :=Sv.Fit.du (h.add (by omega) (hr c bD)) (by omega:V+1+r.length<=_) (fun d hd=>hr d (aY _ hd));rw[show V+(r.length+1)=V+1+r.length by omega];exact this
theorem Sv.Fit.new {b:Int}(h0:0<=b)(h1:b<=262143):(Sv.new b).Fit b.toNat 0:=by obtain⟨k1,k2⟩:=Sv.Ok.new b;obtain⟨_,_,_,_,i5,i6,_⟩:=Sv.Inv.new b;exact⟨k1,by rw[k2];omega,by rw[i5];exact ap _,by rw[i6];exact bR _⟩
theorem OwnX.zM {X:List Nat}{w w1 w2:World}{L:aO}{S:Sv}(h:OwnX X w1 w2 L S)(hf:Fr [] w w1):OwnX X w w2 L S:=⟨h.own.old hf,h.fx⟩
theorem Stay.JT {X:List Nat}{w w':World}(h:Stay X w w'){A:Option Addr}{hs:List Ls}(hr:j3 w A hs)(hx:∀k∈zN A hs,k∈X):j3 w' A hs:=
  ⟨fun h0=>by
    obtain⟨b,o,hA,hc⟩:=hr.1 h0;exact⟨b,o,hA,fun j hj=>h.cell (hc j hj) (hx _ (by rw[hA];simp[zN,ak]))⟩,
   fun j hj=>⟨h.rd (hr.2 j hj).1 (fun k hk=>hx k (bk _ (fv.2 ⟨_,a8 hj,hk⟩))),(hr.2 j hj).2⟩⟩
theorem jy {w:World}{g:Nat}{H:Qh}{q:Qn}(h:At w g 30 (mZ H q)):
    w.cell? ⟨g,0,none⟩=some (.int .i64 q.C.mx)/\w.cell? ⟨g,1,none⟩=some (.slice H.H.iA q.C.ins.length H.H.iC)/\w.cell? ⟨g,2,none⟩=some (.slice H.H.lA q.C.aM.length H.H.lC)/\w.cell? ⟨g,3,none⟩=some (.slice H.H.oA q.C.outs.length H.H.oC)/\
    w.cell? ⟨g,4,none⟩=some (.slice H.H.bA q.C.aT.length H.H.bC)/\w.cell? ⟨g,5,none⟩=some (.slice H.H.vA q.C.aU.length H.H.vC)/\w.cell? ⟨g,6,none⟩=some (.slice H.H.gA q.C.az.length H.H.gC)/\w.cell? ⟨g,7,none⟩=some (.slice H.H.nA q.C.bY.length H.H.nC)/\
    w.cell? ⟨g,8,none⟩=some (.slice H.aA q.am.length H.aC)/\w.cell? ⟨g,9,none⟩=some (.slice H.lA q.ls.length H.lC)/\w.cell? ⟨g,10,none⟩=some (.slice H.kA q.ks.length H.kC)/\
    w.cell? ⟨g,11,none⟩=some (.int .i64 q.bad)/\w.cell? ⟨g,12,none⟩=some (.int .i64 q.dep)/\w.cell? ⟨g,13,none⟩=some (.int .i64 q.yL):=by
  refine⟨?_,?_,?_,?_,?_,?_,?_,?_,?_,?_,?_,?_,?_,?_⟩<;>(rw[h.cell];rfl)
def DlP (w:World)(H:Qh)(q:Qn)(S:Sv)(e:Ending)(w':World):Prop:=
  ∃(g:Nat) (L:aO),e= .returned (.pointer (some ⟨g,0,none⟩))/\w.heap.size<=g/\At w' g 83 (qK H q L.a)/\OwnX [g] w w' L S
theorem py (w:World)(H:Qh)(q:Qn)(m8:fH w H.H q.C)(hv:Valid q.C)(A:Option Addr)(c:Nat)(xs:List zz)(hx:CB w A xs)(hA:∀k∈ak A,k<w.heap.size)(J7:xs.length<=1024)(mi:∀l∈xs.flatMap zz.cl,Ra l/\ft (fF q.C 2).toNat l=0)(hl:(xs.flatMap zz.cl).length<=8388608):
    Calls Tryz.prog 19 #[lD H q, .slice A xs.length c] w (DlP w H q ((Sv.new (fF q.C 2)).du (xs.flatMap zz.cl))):=by
  obtain⟨w1,dP⟩:∃W,w.alloc (.cells (mZ H q) 30)=W:=⟨_,rfl⟩
  have cX:Fr [] w w1:=dP▸aH _ _;have dI:=aa cX;have oO:Hid (At w1 w.heap.size 30 (mZ H q)):=dP▸At.new _ _ _;have h0:=vK hv.m0 (f:=2) (by omega);have hb:fF q.C 2<=262143:=by have h1:=hv.m1;unfold fF;omega
  have KV:=aa (fun W (hW:Fr [] w1 W)=>C9 W H.H q.C (m8.keep (cX.ag hW)) hv 2 (by omega));have KN:=aa (fun W=>T4 W (fF q.C 2) (by omega) (by omega));have vm:=aa (Sv.Fit.new h0 hb);obtain⟨cT,de⟩:∃cT,(Sv.new (fF q.C 2)).du (xs.flatMap zz.cl)=cT:=⟨_,rfl⟩
  rw[de];have dM:=aa de;obtain⟨ba,hba⟩:∃ba,fF q.C 2=ba:=⟨_,rfl⟩
  simp only[hba]at KV KN vm dM;obtain⟨SN,hSN⟩:∃SN,Sv.new ba=SN:=⟨_,rfl⟩
  simp only[hSN]at KN vm dM;rw[hba]at mi;have HX:=aa hx;have HA:=aa hA;have rD:=aa mi;have HL:=aa hl;obtain⟨LP,hLP⟩:∃LP,DlP w H q cT=LP:=⟨_,rfl⟩
  rw[hLP];have na:Hid (∀(W:World) (g:Nat) (L:aO),w.heap.size<=g->At W g 83 (qK H q L.a)->OwnX [g] w W L cT->LP (.returned (.pointer (some ⟨g,0,none⟩))) W):=fun W g L k1 k2 k3=>by rw[<-hLP];exact⟨g,L,rfl,k1,k2,k3⟩
  have DAL:Hid (∀(X:List Nat) (W:World) (L:aO) (S:Sv) (V g:Nat),OwnX X w W L S->S.Fit ba.toNat V->At W g 83 (qK H q L.a)->g∈X->∀x:zz,j3 W x.A x.hs->(∀k∈zN x.A x.hs,k∈X)->(∀l∈x.cl,ft ba.toNat l=0)->V+x.hs.length<=8388608->Calls Tryz.prog 20 #[.pointer (some ⟨g,0,none⟩), .slice x.A x.hs.length x.c] W fun e w'=>e= .returned (.tuple #[])/\∃L',L'.a=L.a/\OwnX X w w' L' (S.du x.cl)/\Stay X W w'):=fun X W L S V g k1 k2 k3 k4 x k5 k6 k7 k8=>
    ru W L S k1 k2 g H q k3 k4 x.A x.c x.hs k5 (fun k hk=>k6 k (an _ hk)) (fun y hy k hk=>k6 k (bk _ (fv.2 ⟨y,hy,hk⟩))) (fun y hy=>k7 _ (aG.2 ⟨y,hy,rfl⟩)) k8
  have DV:Hid (∀a,qK H q a=#[.int .i64 q.C.mx, .slice H.H.iA q.C.ins.length H.H.iC, .slice H.H.lA q.C.aM.length H.H.lC, .slice H.H.oA q.C.outs.length H.H.oC, .slice H.H.bA q.C.aT.length H.H.bC, .slice H.H.vA q.C.aU.length H.H.vC, .slice H.H.gA q.C.az.length H.H.gC, .slice H.H.nA q.C.bY.length H.H.nC, .slice H.aA q.am.length H.aC, .slice H.lA q.ls.length H.lC, .slice H.kA q.ks.length H.kC, .int .i64 q.bad, .int .i64 q.dep, .int .i64 q.yL, .pointer (some ⟨a,0,none⟩)]):=fun a=>rfl;clear m8 hv hx hA mi hl cX h0 hb de hba hSN hLP;have HQ:=aa (fun W (hW:Fr [] w1 W)=>jy (oO.out.keep hW));obtain⟨DD,hDD⟩:∃DD,qK H q=DD:=⟨_,rfl⟩
  simp only[hDD]at DV na DAL;clear hDD;obtain⟨⟨mx,ins,aM,outs,aT,aU,az,bY⟩,am,ls,ks,bad,dep,yL⟩:=q;obtain⟨⟨iA,iC,lA,lC,oA,oC,bA,bC,vA,vC,gA,gC,nA,nC⟩,aA,aC,mA,mC,kA,kC⟩:=H;simp only[lD,mZ,dj,iz]at *;go_enter Tryz.func19,Tryz.ntmps19;go_upto_region 1 with fail;clear dP;refine aam ?_;refine bi (fun w':World=>Fr [] w1 w') 6 (by kernel_rfl) ((Fr.refl _ w1).drew) (fun cZ=> ?_);apply TB 3 [(0,[0,5,6]),(1,[]),(2,[2,3,4,5,6])];kernel_rfl;rfl;· (repeat (apply eH;rfl;rfl;(· intro w bl;(try(have bl:=bl.resolve_left (aF _ _);(obtain⟨q0,q1,q2,q3,q4,q5,q6,q7,q8,q9,mL,nH,nF,nE⟩:=HQ.out _ bl)));go_simp<;>with_reducible rfl);try simp only[Act.put,q5,q6,q7]));exact eG
  exact cZ;intro cZ;refine R2 3 (by kernel_rfl) (by rfl) cZ fun K hK aw=> ?_
  (go_simp;refine(KV.out _ aw).mono ?_;rintro e w3 ⟨rfl,dh⟩;dsimp only);have db:=aa dh;clear dh
  refine hK.out _ _ (.inr ?_) (fun iS=> ?_)
  . first |exact aw.ag Ww.out.fr |exact aw.ag db.out |exact aw
  clear hK K;try simp only[Act.put,q5,q6,q7]
  refine R2 4 (by kernel_rfl) (by rfl) iS fun K hK aw=> ?_
  (have HS3:=aa aw;go_simp;refine(KN.out _).mono ?_;rintro e w4 ⟨L4,rfl,ho4⟩;dsimp only);have Ww:=aa ho4;clear ho4
  refine hK.out _ _ (.inr ?_) (fun Aw=> ?_)
  . first |exact aw.ag Ww.out.fr |exact aw.ag db.out |exact aw
  clear hK K;try simp only[Act.put,q5,q6,q7]
  apply TB 1 [(5,[])];kernel_rfl;rfl;· (repeat (apply eH;rfl;rfl;(· intro w bl;go_simp<;>with_reducible rfl);try simp only[Act.put,q5,q6,q7]));exact eG
  exact Aw;intro Aw;refine R2 6 (by kernel_rfl) (by rfl) Aw fun K hK aw=> ?_
  (have eP:=aa aw;go_simp)
  refine hK.out _ _ (.inl rfl) (fun vF=> ?_);clear hK K;try simp only[Act.put,q5,q6,q7]
  refine R1 (i:=7) (o:= ?WX) (by kernel_rfl) (by rfl) ?_;intro K hK;go_simp;refine hK.out _ _ (.inl rfl) (fun Km=> ?_);clear hK K;try simp only[Act.put,q5,q6,q7]
  refine aD (by kernel_rfl) ?_ _;refine NoPanic.normal ?_;obtain⟨w5,GT⟩:∃W,w4.alloc (.cells #[.int .i64 mx, .slice iA ins.length iC, .slice lA aM.length lC, .slice oA outs.length oC, .slice bA aT.length bC, .slice vA aU.length vC, .slice gA az.length gC, .slice nA bY.length nC, .slice aA am.length aC, .slice mA ls.length mC, .slice kA ks.length kC, .int .i64 bad, .int .i64 dep, .int .i64 yL, .pointer (some ⟨L4.a,0,none⟩)] 83)=W:=⟨_,rfl⟩
  rw[GT];have ev:Fr [] w4 w5:=GT▸aH _ _;have hs5:w5.heap.size=w4.heap.size+1:=by rw[<-GT];simp
  have HD5:Hid (At w5 w4.heap.size 83 (DD L4.a)):=by show At _ _ _ _;rw[DV.out,<-GT];exact At.new _ _ _
  have vz:=dI.out.ag HS3.out;have qD:=vz.ag Ww.out.fr;have ho5:OwnX [w4.heap.size] w w5 (L4.shut w4) SN:=((Ww.out.mark ev (Y:=[w4.heap.size]) (fun k hk=>by simp at hk;omega))).zM vz;obtain⟨X,hXX⟩:∃X:List Nat,X=[w4.heap.size]++(ak A++xs.flatMap fun x=>zN x.A x.hs):=⟨_,rfl⟩
  have OO:Hid (OwnX X w w5 (L4.shut w4) SN):=by
    show OwnX _ _ _ _ _;rw[hXX];refine ho5.old (fun k hk=> ?_);rcases ah.1 hk with h1 |h1
    . exact HA.out k h1
    . obtain⟨x,hx,h2⟩:=fv.1 h1;exact HX.out.old x hx k h2
  have uH:=aa (HX.out.keep (qD.ag ev));have NQ:Hid (∀k∈ak A,k∈X):=fun k hk=>by rw[hXX];exact bk _ (an _ hk)
  have ym:Hid (∀x∈xs,∀k∈zN x.A x.hs,k∈X):=fun x hx k hk=>by rw[hXX];exact bk _ (bk _ (fv.2 ⟨x,hx,hk⟩))
  have NP:Hid (w4.heap.size∈X):=by show _∈_;rw[hXX];simp
  have HXL:=aa (fun k hk=>(OO.out.fx k hk).1);obtain⟨g,hg⟩:∃g,w4.heap.size=g:=⟨_,rfl⟩
  have HGN:Hid (w.heap.size<=g):=hg▸qD.size;obtain⟨a4,ha4⟩:∃a,L4.a=a:=⟨_,rfl⟩
  have HA5:Hid ((L4.shut w4).a=a4):=ha4;rw[hg]at HD5 NP⊢;rw[ha4]at HD5⊢;clear GT ev hs5 vz qD ho5 hXX hg ha4 eP Ww HS3 aw HQ oO KV KN;try clear cZ
  go_wp2_with fail;go_loopg [17] xs.length (fun gg Yp wr=>∃(k:Nat) (L:aO) (S:Sv) (V:Nat),k+gg=xs.length/\Yp= .int .i64 k/\Hid (L.a=a4)/\Hid (OwnX X w wr L S)/\Hid (Stay X w5 wr)/\Hid (S.Fit ba.toNat V/\V+((xs.drop k).flatMap zz.cl).length<=8388608)/\Hid (S.du ((xs.drop k).flatMap zz.cl)=cT));case atStart=>exact⟨0,L4.shut w4,SN,0,by omega,rfl,HA5,OO,Stay.of (Fr.refl _ w5),⟨vm.out,by rw[List.drop_zero,da];exact HL.out⟩,dM⟩
  case round=>
    clear HA5 OO vm dM;obtain⟨k,L,S,V,hk,rfl,zI,HOW,mE,HFT,oN⟩:=hrel;have HK:=aa hk;have jg:k<=xs.length:=(by omega)
    clear hk;have TC:Hid (At wr g 83 (DD L.a)):=by show At _ _ _ _;rw[zI.out];exact mE.out.at_ HD5.out NP.out
    by_cases bw:k<xs.length
    . obtain⟨b,o,hA,hc⟩:=uH.out.cells (by omega);have cx:=mE.out.cell (hc k bw) (NQ.out b (by rw[hA];simp[ak]));subst hA;have GR:xs[k]! ∈xs:=a8 bw;have u0:=drop_cons bw;obtain⟨x,hx⟩:∃x,xs[k]! =x:=⟨_,rfl⟩
      rw[hx]at cx GR u0;have hft:=HFT.out;rw[u0,List.flatMap_cons,aj]at hft;have iy:=oN.out;rw[u0,List.flatMap_cons,Sv.yi]at iy;have od:x.cl.length=x.hs.length:=aq ..;have kR:∀l∈x.cl,Ra l/\ft ba.toNat l=0:=fun l hl=>rD.out l (fv.2 ⟨x,GR,hl⟩);have KD:=aa (DAL.out X wr L S V g HOW.out hft.1 TC.out NP.out x (mE.out.JT (uH.out.rd x GR) (ym.out x GR)) (ym.out x GR) (fun l hl=>(kR l hl).2) (by omega));have cw:Hid ((S.du x.cl).Fit ba.toNat (V+x.cl.length)/\V+x.cl.length+((xs.drop (k+1)).flatMap zz.cl).length<=8388608):=⟨hft.1.du (by omega) (fun l hl=>(kR l hl).1),by omega⟩
      have qc:=aa iy;obtain⟨xA,xc,xh⟩:=x;simp only[zz.val]at cx KD;clear hc GR u0 hx hft iy od kR;go_wp2_with fail;refine KD.out.mono ?_;clear KD;rintro e w6 ⟨rfl,L6,hL6,h6,s6⟩;have Ft:=aa (hL6.trans zI.out);have H6:=aa h6;have yM:=aa (mE.out.ag s6 HXL.out);clear hL6 h6 s6 cx TC;go_wp2_with fail;go_roundg (gk-1);case measure=>have :=HK.out;omega
      case rel=>exact⟨k+1,L6,_,_,by have :=HK.out;omega,by go_num,Ft,H6,yM,cw,qc⟩
    . obtain rfl :k=xs.length:=by omega
      have iy:=oN.out;rw[List.drop_length]at iy;have X6:Hid (S=cT):=iy;have Yg:=aa (na.out wr g L HGN.out TC.out ((X6.out▸HOW.out).less (fun j hj=>by simp at hj;subst hj;exact NP.out)));clear HK iy;go_wp2_with fail;exact Yg.out
def Lrow (w:World)(A:Option Addr)(c:Nat)(hs:List Ls):Prop:=w.ownsRow 0 22 1 (.slice A hs.length c) hs.length (hs.map Ls.val)
namespace Lrow
variable {w w':World} {A:Option Addr} {c:Nat} {hs:List Ls}
theorem form (h:Lrow w A c hs):(A=none/\c=0/\hs=[])\/∃g,A=some ⟨g,0,none⟩/\g<w.heap.size/\hs.length<=c:=by
 rcases h.2 with⟨h1,h2⟩ |⟨g,cap,cur,hv,_,hg,hn,hm,_⟩
 ·simp only[Value.slice.injEq]at h1;exact .inl ⟨h1.1,h1.2.2,aP h2⟩
 ·simp only[Value.slice.injEq,true_and]at hv;obtain⟨rfl,rfl⟩:=hv;exact .inr ⟨g,rfl,At.lt (t:=22) hg,hn⟩
theorem fr {S:List Nat}(h:Lrow w A c hs)(hf:Fr S w w')(hd:∀k,k∈ak A->k∉S):Lrow w' A c hs:=hf.own h (fun k hk=>hd k ((jl k).1 hk))
theorem keep (h:Lrow w A c hs)(hf:Fr [] w w'):Lrow w' A c hs:=h.fr hf (fun k _ hm=>by cases hm)
theorem nil (w:World):Lrow w none 0 []:=World.ownsRow_nil w 0 _ 1
theorem JT (h:Lrow w A c hs)(ok:∀j:Nat,j<hs.length->zy w hs[j]!):j3 w A hs:=by
 refine⟨fun h0=> ?_,ok⟩;rcases h.form with⟨_,_,rfl⟩ |⟨g,rfl,h1,h2⟩
 ·simp at h0
 ·refine⟨g,0,rfl,fun j hj=> ?_⟩;rw[da,World.ownsRow.cellAt h _ (by omega)];simp only[aJ,af hj,cD,ae,ay]
end Lrow
theorem mK (w:World)(ty:TypeId)(A:Option Addr)(c:Nat)(hs:List Ls)(dw:Lrow w A c hs)(B:Option Addr)(d:Nat)(ms:List Ls)(hB:B=none->ms=[]/\d=0)
  (hr:0<ms.length->∃b o,B=some ⟨b,o,none⟩/\∀j:Nat,j<ms.length->w.cell? ⟨b,o+j,none⟩=some (ms[j]!).val)(hlen:hs.length+ms.length<=4194304):
  ∃A' cap w',(Builtin.append_ #[28,28] ty #[.slice A hs.length c, .slice B ms.length d]).run Tryz.prog w= .ok (.slice A' (hs.length+ms.length) cap) w'/\Lrow w' A' cap (hs++ms)/\Fr (ak A) w w'/\(∀k,k∈ak A'->k∈ak A\/k=w.heap.size)/\w.heap.size<=w'.heap.size:=by
 cases B with
 |none=>
  obtain⟨rfl,rfl⟩:=hB rfl;obtain⟨i0,hi,vy,nN,za⟩:=info_parts si;have hc:hs.length<=c:=by
   rcases dw.form with⟨_,_,rfl⟩ |⟨_,_,_,h1⟩
   ·simp
   ·exact h1
  have iV:(Builtin.append_ #[28,28] ty #[.slice A hs.length c, .slice none 0 0]).run Tryz.prog w= .ok (.slice A hs.length c) w:=by cases A<;>simp[Builtin.append_,run_underlying Tryz.underlying28,sizeOf,typeInfo,hi,Builtin.lenOf,hc,Builtin.firstCells,loadCells,storeCells]
  exact⟨A,c,w,by rw[List.length_nil,Nat.add_zero];exact iV,by rw[bZ];exact dw,Fr.refl _ _,fun k hk=> .inl hk,ap _⟩
 |some ad=>
  obtain⟨A',cap,w',iV,h2,h3,h4,h5,h6,h7⟩:=eN w 28 ty 22 (.slice none 0 0) 1 24 Tryz.underlying28 si rfl (by decide) A c hs.length (hs.map Ls.val) dw ad ms.length d (ms.map Ls.val) (by simp) (fun j u hu=>by simp only[aJ,Option.map_eq_some_iff]at hu;obtain⟨y,hy,rfl⟩:=hu;have hj:=(lH.1 hy).1;obtain⟨b,o,hbo,hx⟩:=hr (by omega);cases hbo;have :=hx j hj;rw[ae,hy]at this;rw[dH];exact this) (by intro u hu;obtain⟨y,_,rfl⟩:=aG.1 hu;rfl) (by unfold maxLen;omega) (by omega);refine⟨A',cap,w',iV,?_,h3,h4,h5⟩;unfold Lrow;rw[aj,bH];exact h2
theorem ib (w:World){ops:Array Oper}{rest:List Oper}{o:Oper}{a:Act}{Q:Exit->Act->World->Prop}(ow:o.guard=none)(s x:Operand)
  (ho:o.op= .call { callee:= .builtin .append,args:=#[s,x],argTypes:=#[28,28] })(A:Option Addr)(c:Nat)(hs:List Ls)(n:Nat)(Th:a.eval s= .slice A n c)(hn:n=hs.length)(dw:Lrow w A c hs)
  (B:Option Addr) (d:Nat) (ms:List Ls) (m:Nat) (hx:a.eval x= .slice B m d) (hm:m=ms.length) (hB:B=none->ms=[]/\d=0)
  (hr:0<ms.length->∃b o,B=some ⟨b,o,none⟩/\∀j:Nat,j<ms.length->w.cell? ⟨b,o+j,none⟩=some (ms[j]!).val) (hlen:hs.length+ms.length<=4194304)
  (h:∀A' cap w',Lrow w' A' cap (hs++ms)->Fr (ak A) w w'->(∀k,k∈ak A'->k∈ak A\/k=w.heap.size)->w.heap.size<=w'.heap.size->wpList Tryz.prog ops Q rest (a.put o.dst (.slice A' (n+m) cap)) w'):
  wpList Tryz.prog ops Q (o::rest) a w:=by
 subst hn hm;refine wpList_plain ow fun K hK=> ?_;obtain⟨A',cap,w',iV,h2,h3,h4,h5⟩:=mK w o.type A c hs dw B d ms hB hr hlen;unfold Oper.wp execOp;simp only[ho,resolve,invoke,builtin,Sem.run_bind,Sem.run_pure,Result.andThen_ok,List.map_toArray,cj,dv,Th,hx,iV];exact hK _ _ (h A' cap w' h2 h3 h4 h5)
theorem JY {w:World}{hs ms:List Ls}(h1:∀j:Nat,j<hs.length->zy w hs[j]!)(h2:∀j:Nat,j<ms.length->zy w ms[j]!):∀j:Nat,j<(hs++ms).length->zy w (hs++ms)[j]! :=by
 intro j hj;rw[aj]at hj;by_cases h:j<hs.length
 ·have :=h1 j h;simp only[ae,cJ h]at this⊢;exact this
 ·have :=h2 (j-hs.length) (by omega);simp only[ae,eO (show hs.length<=j by omega)]at this⊢;exact this
theorem lP {w:World}{ops:Array Oper}{o:Oper}{a:Act}{K:Act->World->Prop}{Q:Exit->Act->World->Prop}{E:Prop}(ow:o.guard=none)(s x:Operand)
  (ho:o.op= .call { callee:= .builtin .append,args:=#[s,x],argTypes:=#[28,28] })(A:Option Addr)(c:Nat)(hs:List Ls)(n:Nat)(Th:a.eval s= .slice A n c)(hn:n=hs.length)(dw:Lrow w A c hs)
  (B:Option Addr) (d:Nat) (ms:List Ls) (m:Nat) (hx:a.eval x= .slice B m d) (hm:m=ms.length) (hB:B=none->ms=[]/\d=0)
  (hr:0<ms.length->∃b o,B=some ⟨b,o,none⟩/\∀j:Nat,j<ms.length->w.cell? ⟨b,o+j,none⟩=some (ms[j]!).val) (hlen:hs.length+ms.length<=4194304)
  (h:∀A' cap w',Lrow w' A' cap (hs++ms)->Fr (ak A) w w'->(∀k,k∈ak A'->k∈ak A\/k=w.heap.size)->w.heap.size<=w'.heap.size->K (a.put o.dst (.slice A' (n+m) cap)) w'):
  if Region.wanted o (yielded ops a.tmps)=true then Oper.wp Tryz.prog o a w K Q else E:=by
 have hw:Region.wanted o (yielded ops a.tmps)=true:=by simp[Region.wanted,ow]
 rw[aae hw];subst hn hm;obtain⟨A',cap,w',iV,h2,h3,h4,h5⟩:=mK w o.type A c hs dw B d ms hB hr hlen;unfold Oper.wp execOp;simp only[ho,resolve,invoke,builtin,Sem.run_bind,Sem.run_pure,Result.andThen_ok,List.map_toArray,cj,dv,Th,hx,iV];exact h A' cap w' h2 h3 h4 h5
theorem Cj (w:World)(A:Option Addr)(c:Nat)(hs:List Ls)(h:j3 w A hs)(hn:A=none->c=0)(hl:hs.length<=2097152):
  Calls Tryz.prog 18 #[.slice A hs.length c] w fun e w'=>∃A' c',e= .returned (.slice A' hs.length c')/\Lrow w' A' c' hs/\(∀k,k∈ak A'->w.heap.size<=k)/\Fr [] w w':=by
 cases A with
 |none=>
  have h0:hs.length=0:=by
   rcases Nat.eq_zero_or_pos hs.length with h5 |h5
   ·exact h5
   ·obtain⟨b,o,hA,_⟩:=h.1 h5;cases hA
  obtain rfl :hs=[]:=aP h0;obtain rfl :=hn rfl;have he:∀w:World,(binOp .eql 28 (.slice none 0 0) (.slice none 0 0)).run Tryz.prog w= .ok (.bool true) w:=fun w=>Lib.run_eql_slice_nil w _ _ _ _ _ _ _ Tryz.underlying28;have e0:([]:List Ls).length=0:=rfl;rw[e0];clear h hn h0;go_enter Tryz.func18,Tryz.ntmps18;go_wp2_with fail;go_ret;exact⟨none,0,rfl,Lrow.nil _,by simp[ak],Fr.refl _ _⟩
 |some ad=>
  have he:∀w:World,(binOp .eql 28 (.slice (some ad) hs.length c) (.slice none 0 0)).run Tryz.prog w= .ok (.bool false) w:=fun w=>Lib.run_eql_slice_nil w _ _ _ _ _ _ _ Tryz.underlying28;have HC:=aa ((h.keep (aH w (.cells #[] 22))).1);have HE:Hid (Lrow (w.alloc (.cells #[] 22)) (some ⟨w.heap.size,0,none⟩) 0 []):=World.ownsRow_lit w #[] 0 (bR _) (by simp[maxLen]) (by simp);clear h hn;go_enter Tryz.func18,Tryz.ntmps18;go_wp2_with (at_builtin;(refine ib _ rfl _ _ rfl (some ⟨w.heap.size,0,none⟩) 0 [] 0 rfl rfl HE.out (some ad) c hs hs.length rfl rfl (fun h=>by cases h) HC.out (by simp;omega) ?_;intro A2 c2 w2 rm bW iK lX;have qc:=aa rm;have cw:=aa bW;have pF:=aa iK;clear rm bW iK lX))
  go_ret;refine⟨A2,c2,by simp,qc.out,fun k hk=> ?_,?_⟩
  ·rcases pF.out k hk with h |h
   ·simp[ak]at h;omega
   ·rw[h];simp
  ·exact((Fr.refl [] w).alloc _).trans cw.out (fun k hk=> .inr (by simp[ak]at hk;omega))
end Go.Proofs.YtjmmpfjcpdepjaaGreatDoor
