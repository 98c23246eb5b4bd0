/- Parts of a proof. -/
import Derived.Test.YtpjbaobgnhjgoaaGreatGAG
set_option linter.unusedVariables false
set_option linter.unusedSimpArgs false
set_option maxHeartbeats 16000000
set_option maxRecDepth 100000
namespace Go.Proofs.YtpjbaobgnhjgoaaGreat
open Go.RowKit
def IP(w:World)(L:aO)(A:Option Addr)(us:List Int):Prop:=Rd w A us/\(0<us.length->L.ie A)
theorem EJ{w:World}{L L':aO}{A:Option Addr}(he:L.ext L' w)(hf:L.ie A)(J:∀k,k∈ao A->k<w.heap.size):L'.ie A:=fun k hk e=>
 hf k hk (he.2.2 k (J k hk) (e.trans he.2.1))
theorem IP.step{w w':World}{L L':aO}{A:Option Addr}{us:List Int}(h:IP w L A us)(he:L.ext L' w)(hf:Fr (L.own w) w w'):IP w' L' A us:=by refine⟨fun J=> ?_,fun J=>EJ he (h.2 J) (h.1.blk J)⟩;exact(h.1.jP hf (fun k hk=>aO.o9 (h.2 J k hk))) J
theorem IP.keep{w w':World}{L:aO}{A:Option Addr}{us:List Int}(h:IP w L A us)(J:Fr [] w w'):IP w' L A us:=⟨h.1.keep J,h.2⟩
theorem sX(w:World)(L:aO)(S:Sv)(h:bh w L S)(m:Nat)(ok:S.Ok m)(hd:S.T.levels.length<17592186044416):
  Calls Tryz.prog 143 #[.pointer (some ⟨L.tL.a,0,none⟩)] w fun e w'=>(∃x,e= .returned x)/\∃L',bh w' L' S.deep/\L.ext L' w/\Fr (L.own w) w w':=by
 obtain⟨R,hR⟩:=ok.tr;have hs:=hR.size;refine(Dq w L.tL S.T h.tr (by omega) hd).mono ?_;rintro e w' ⟨rfl,ab,h1,J,h3⟩;exact⟨⟨_,rfl⟩,h.yL h1 J h3⟩
theorem ol(w:World)(L:aO)(S:Sv)(h:bh w L S)(m:Nat)(ok:S.Ok m)(l r:Int)(h0: -(S.vars:Int)<=l)(h1:l<=S.vars):
  Calls Tryz.prog 129 #[.pointer (some ⟨L.tL.a,0,none⟩), .int .i64 l, .int .i64 r] w fun e w'=>(∃x,e= .returned x)/\∃L',bh w' L' (S.put l r)/\L.ext L' w/\Fr (L.own w) w w':=by
 have hl:=ok.io;have hv:=ok.vl;refine(qaf w L.tL S.T h.tr l r (by omega) (by omega) (by omega)).mono ?_;rintro e w' ⟨rfl,ab,h1,J,h3⟩;exact⟨⟨_,rfl⟩,h.yL h1 J h3⟩
namespace Sv
theorem Ok.deep{S:Sv}{m:Nat}(ok:S.Ok m):S.deep.Ok m:=by obtain⟨R,J⟩:=ok.tr;refine⟨ok.vl,⟨R,?_⟩,ok.hi,ok.hl,ok.ph,ok.wl,ok.ll,ok.wb,ok.wt,ok.lr,ok.ln,ok.lb,ok.hd,ok.rs⟩;have :=J.deep;simpa[Sv.deep,Tr.zV]using this
theorem ep(S:Sv):S.deep.T.levels.length=S.T.levels.length+1:=by simp[Sv.deep,Tr.zV]
theorem ee(S:Sv)(l r:Int):(S.put l r).T.levels=S.T.levels:=by unfold Sv.put;simp only;split<;>rfl
theorem Ok.choose{S:Sv}{m:Nat}(ok:S.Ok m):S.choose.1.Ok m/\S.choose.1.vars=S.vars/\S.choose.1.list=S.list/\S.choose.1.T.levels.length<=S.T.levels.length+1:=by
 have hp:=ok.pick;unfold Sv.choose;split
 ·exact⟨hp.1.keep,hp.2.2.1,hp.2.2.2.1,by show S.pick.1.T.levels.length<=_;rw[hp.2.1];omega⟩
 ·refine⟨hp.1.deep.put ⟨by omega,by omega⟩,hp.2.2.1,hp.2.2.2.1,?_⟩;rw[ee,ep,hp.2.1];omega
theorem EO{S:Sv}{us:List Int}{f:Nat}(h:¬S.T.levels.length<us.length):bJ us f S=S.choose:=by
 cases f with
 |zero=>rfl
 |succ f=>rw[bJ,qah h]
theorem Ok.bJ{us:List Int}{m:Nat}:∀(f:Nat)(S:Sv),S.Ok m->(Sv.bJ us f S).1.Ok m/\(Sv.bJ us f S).1.vars=S.vars/\(Sv.bJ us f S).1.list=S.list/\(Sv.bJ us f S).1.T.levels.length<=max S.T.levels.length us.length+1
 |0,S,ok=>by
  have h:=ok.choose;exact⟨h.1,h.2.1,h.2.2.1,by have :=h.2.2.2;show S.choose.1.T.levels.length<=_;omega⟩
 |f+1,S,ok=>by
  rw[Sv.bJ];split
  ·rename_i bt;simp only;split
   ·exact⟨ok.oZ _,rfl,rfl,by show S.T.levels.length<=_;omega⟩
   ·split
    ·refine⟨ok.deep.put ⟨by omega,by omega⟩,rfl,rfl,?_⟩;rw[ee,ep];omega
    ·have J:=Ok.bJ (us:=us) f S.deep ok.deep;refine⟨J.1,J.2.1,J.2.2.1,?_⟩;have :=J.2.2.2;rw[ep]at this;omega
  ·have h:=ok.choose;exact⟨h.1,h.2.1,h.2.2.1,by have :=h.2.2.2;omega⟩
theorem Ok.aP{S:Sv}{m:Nat}(ok:S.Ok m)(us:List Int):(S.aP us).1.Ok m/\(S.aP us).1.vars=S.vars/\(S.aP us).1.list=S.list/\(S.aP us).1.T.levels.length<=max S.T.levels.length us.length+1:=Ok.bJ _ S ok
end Sv
theorem lV(w:World)(L:aO)(S:Sv)(h:bh w L S)(m:Nat)(ok:S.Ok m)(A:Option Addr)(c:Nat)(us:List Int)(sP:IP w L A us)(Jb:∀x∈us,-(S.vars:Int)<=x/\x<=S.vars)(Be:us.length<=1099511627776)(iT:S.core=[])(Py:S.T.levels.length<=4398046511104):
  Calls Tryz.prog 109 #[.pointer (some ⟨L.a,0,none⟩), .slice A us.length c] w (pB (.int .i64 (S.aP us).2) (S.aP us).1 L w):=by
 obtain⟨eH,eB⟩:∃eH,S.aP us=eH:=⟨_,rfl⟩
 have gd:aj (Sv.bJ us (us.length+1) S=eH):=eB;rw[eB];have pT:aj (∀(S':Sv)(r:Int),eH=(S',r)->∀W L',bh W L' S'->L.ext L' w->Fr (L.own w) w W->pB (.int .i64 eH.2) eH.1 L w (.returned (.int .i64 r)) W):=fun S' r e W L' g1 g2 g3=>by subst e;exact⟨rfl,L',g1,g2,g3⟩
 have HH:=ae h;have lh:=ae ok;have VA:=ae sP;have Vx:=ae Jb;have bb:=ae iT;have lP:=ok.vl;clear eB h ok sP Jb iT;go_enter Tryz.func109,Tryz.ntmps109;go_wp2_with fail;go_loopg [] (us.length+1) (fun g wr=>∃(J:Sv)(L1:aO),aj (Sv.bJ us g J=eH)/\us.length+1<=g+J.T.levels.length/\J.T.levels.length<=8796093022208/\aj (J.vars=S.vars)/\aj (J.core=[])/\aj (J.Ok m)/\aj (bh wr L1 J)/\aj (L.ext L1 w)/\aj (Fr (L.own w) w wr));case atStart=>exact⟨S,L,gd.o,by omega,by omega,rfl,bb.o,lh.o,HH.o,aO.cw _ _,Fr.refl _ _⟩
 case round=>
  obtain⟨J,L1,tz,hg,Jg,Yo,pX,lZ,H1,fH,dZ⟩:=hrel;have HG:=ae hg;have nW:L1.a=L.a:=fH.o.1;obtain⟨c0,-⟩:=H1.o.cells;rw[nW]at c0;have aK:=ae nW;have vZ:=ae c0;have KD:=ae (m9 wr L1.tL J.T H1.o.tr);obtain⟨d,hd⟩:∃d,J.T.levels.length=d:=⟨_,rfl⟩
  rw[hd]at KD Jg;have HD:=ae hd;have UG:=ae (VA.o.step fH.o dZ.o);clear nW hg hd;have gF:J.vars=S.vars:=Yo.o;by_cases bt:d<us.length
  ·obtain⟨f,rfl⟩:∃f,gk=f+1:=⟨gk-1,by have :=HG.o;have :=HD.o;omega⟩
   have bg:aj (Ra us):=(fR (p:=eJ)).2 fun x hx=>by have :=Vx.o x hx;constructor<;>omega
   obtain⟨b,o,x,hA,he,cx,gU,jn⟩:=UG.o.1.one bg.o bt;subst hA;have bG:=Vx.o x (by rw[<-he.o];exact bk bt);obtain⟨y,hy⟩:∃y,J.T.mQ x=y:=⟨_,rfl⟩
   have KV:=ae (eN wr L1.tL J.T H1.o.tr x gU jn lZ.o.small);rw[hy]at KV;have HY:aj (J.val us[J.T.levels.length]! =y):=by show _=_;rw[HD.o,he.o];exact hy
   clear hy;by_cases iO:y= -1
   ·subst iO;have Fs:(((-1:Int))==(-1:Int))=true:=rfl;have KB:=ae (Iw wr L1 J H1.o m lZ.o x (by omega) (by omega) (some ⟨b,o,none⟩) c us UG.o.1 (fun z hz=>by have :=Vx.o z hz;omega) Be (UG.o.2 (by omega)) pX.o);rw[aK.o]at KB;have HK:aj (eH=(J.Af x us,2)):=by have :=tz.o;rw[Sv.bJ,qai (by rw[HD.o];exact bt)]at this;simp only at this;rw[qai HY.o,HD.o,he.o]at this;exact this.symm
    go_wp2_with fail;refine KD.o.mono ?_;rintro e w2 ⟨rfl,rfl⟩;go_wp2_with fail;refine KD.o.mono ?_;rintro e w2 ⟨rfl,rfl⟩;go_wp2_with fail;refine KV.o.mono ?_;rintro e w2 ⟨rfl,rfl⟩;go_wp2_with fail;refine KB.o.mono ?_;rintro e w2 ⟨rfl,L2,h2,jZ,cE⟩;have FF:=ae (pT.o _ 2 HK.o w2 L2 h2 (aO.a6 fH.o jZ dZ.o.size) (aO.aQ fH.o dZ.o cE));clear KB KV KD h2 jZ cE c0 cx;go_wp2;go_ret;exact FF.o
   ·by_cases lf:y=0
    ·subst lf;have Ux:=ae (sX wr L1 J H1.o m lZ.o (by rw[HD.o];omega));have HK:aj (eH=(J.deep.put x 0,0)):=by have :=tz.o;rw[Sv.bJ,qai (by rw[HD.o];exact bt)]at this;simp only at this;rw[qah (by rw[HY.o];decide),qai HY.o,HD.o,he.o]at this;exact this.symm
     go_wp2_with fail;refine KD.o.mono ?_;rintro e w2 ⟨rfl,rfl⟩;go_wp2_with fail;refine KD.o.mono ?_;rintro e w2 ⟨rfl,rfl⟩;go_wp2_with fail;refine KV.o.mono ?_;rintro e w2 ⟨rfl,rfl⟩;go_wp2_with fail;refine Ux.o.mono ?_;rintro e w2 ⟨⟨x2,rfl⟩,L2,h2,jZ,cE⟩;have H2:=ae h2;have dR:=ae (aO.a6 fH.o jZ dZ.o.size);have df:=ae (aO.aQ fH.o dZ.o cE);obtain⟨c0,-⟩:=H2.o.cells;rw[dR.o.1]at c0;have KP:=ae (ol w2 L2 J.deep H2.o m lZ.o.deep x 0 (by show -(J.vars:Int)<=x;omega) (by show x<=(J.vars:Int);omega));clear Ux KV KD h2 jZ cE cx;go_wp2_with fail;refine KP.o.mono ?_;rintro e w3 ⟨⟨x3,rfl⟩,L3,h3,xL,dN⟩;have FF:=ae (pT.o _ 0 HK.o w3 L3 h3 (aO.a6 dR.o xL df.o.size) (aO.aQ dR.o df.o dN));clear KP h3 xL dN c0;go_wp2;go_ret;exact FF.o
    ·have Fs:(y==(-1:Int))=false:=(by simp[iO])
     have bo:(y==(0:Int))=false:=(by simp[lf])
     have Ux:=ae (sX wr L1 J H1.o m lZ.o (by rw[HD.o];omega));have HK:aj (Sv.bJ us f J.deep=eH):=by have :=tz.o;rw[Sv.bJ,qai (by rw[HD.o];exact bt)]at this;simp only at this;rw[qah (by rw[HY.o];exact iO),qah (by rw[HY.o];exact lf)]at this;exact this
     go_wp2_with fail;refine KD.o.mono ?_;rintro e w2 ⟨rfl,rfl⟩;go_wp2_with fail;refine KD.o.mono ?_;rintro e w2 ⟨rfl,rfl⟩;go_wp2_with fail;refine KV.o.mono ?_;rintro e w2 ⟨rfl,rfl⟩;go_wp2_with fail;refine Ux.o.mono ?_;rintro e w2 ⟨⟨x2,rfl⟩,L2,h2,jZ,cE⟩;have H2:=ae h2;have dR:=ae (aO.a6 fH.o jZ dZ.o.size);have df:=ae (aO.aQ fH.o dZ.o cE);have ba:J.deep.T.levels.length<=8796093022208:=by rw[Sv.ep,HD.o];omega
     have bj:=ae ba;clear Ux KV KD h2 jZ cE cx ba;go_wp2;go_roundg f;case measure=>omega
     case rel=>exact⟨J.deep,L2,HK.o,by have :=HG.o;rw[Sv.ep];omega,bj.o,Yo.o,pX.o,lZ.o.deep,H2.o,dR.o,df.o⟩
  ·have HK:aj (eH=J.choose):=by have :=tz.o;rw[Sv.EO (by rw[HD.o];exact bt)]at this;exact this.symm
   have KP:=ae (JP wr L1 J H1.o m lZ.o);rw[aK.o]at KP;have Z7:=ae lZ.o.pick;obtain⟨PK,ad⟩:∃PK,J.pick=PK:=⟨_,rfl⟩
   have Cv:J.choose=if PK.2=0 then(PK.1.keep,1)else(PK.1.deep.put PK.2 0,0):=by unfold Sv.choose;rw[ad]
   rw[ad]at KP Z7;obtain⟨S2,p⟩:=PK;simp only at Cv KP Z7;have aB:=ae Cv;clear Cv ad;go_wp2_with fail;refine KD.o.mono ?_;rintro e w2 ⟨rfl,rfl⟩;go_wp2_with fail;refine KP.o.mono ?_;rintro e w2 ⟨rfl,L2,h2,jZ,cE⟩;have H2:=ae h2;have dR:=ae (aO.a6 fH.o jZ dZ.o.size);have df:=ae (aO.aQ fH.o dZ.o cE);have ab:S2.vars=J.vars:=Z7.o.2.2.1;have a1:S2.T.levels.length<=8796093022208:=by rw[Z7.o.2.1,HD.o];exact Jg
   have ar:=Z7.o.2.2.2.2.2;obtain⟨c0,-⟩:=H2.o.cells;rw[dR.o.1]at c0;clear KP KD h2 jZ cE;by_cases GW:p=0
   ·subst GW;have HK:aj (eH=(S2.keep,1)):=by have :=aB.o;rw[qai rfl]at this;exact HK.o.trans this
    have KK:=ae (J9 w2 L2 S2 H2.o m Z7.o.1);rw[dR.o.1]at KK;clear ab a1 ar;go_wp2_with fail;refine KK.o.mono ?_;rintro e w3 ⟨rfl,L3,h3,xL,dN⟩;have FF:=ae (pT.o _ 1 HK.o w3 L3 h3 (aO.a6 dR.o xL df.o.size) (aO.aQ dR.o df.o dN));clear KK h3 xL dN c0;go_wp2;go_ret;exact FF.o
   ·have bB:(p==(0:Int))=false:=by simp[GW]
    have HK:aj (eH=(S2.deep.put p 0,0)):=by have :=aB.o;rw[qah GW]at this;exact HK.o.trans this
    have Ux:=ae (sX w2 L2 S2 H2.o m Z7.o.1 (by omega));have aM:aj (-(S2.vars:Int)<=p/\p<=S2.vars):=by rw[ab];exact ar
    clear ab a1 ar;go_wp2_with fail;refine Ux.o.mono ?_;rintro e w3 ⟨⟨x3,rfl⟩,L3,h3,xL,dN⟩;have H3:=ae h3;have jt:=ae (aO.a6 dR.o xL df.o.size);have dG:=ae (aO.aQ dR.o df.o dN);obtain⟨c0,-⟩:=H3.o.cells;rw[jt.o.1]at c0;have aT:=ae (ol w3 L3 S2.deep H3.o m Z7.o.1.deep p 0 aM.o.1 aM.o.2);clear Ux h3 xL dN;go_wp2_with fail;refine aT.o.mono ?_;rintro e w4 ⟨⟨x4,rfl⟩,L4,h4,ZA,fG⟩;have FF:=ae (pT.o _ 0 HK.o w4 L4 h4 (aO.a6 jt.o ZA dG.o.size) (aO.aQ jt.o dG.o fG));clear aT h4 ZA fG c0;go_wp2;go_ret;exact FF.o
namespace Sv
def rest(S:Sv):Hp×Nat×List Bool×List Bool×List Int×Nat×Nat×Int×Nat×Bool×Bool×List Int×Nat:=
 (S.H,S.vars,S.phase,S.model,S.core,S.used,S.bump,S.many,S.cv,S.bad,S.has,S.T.levels,S.list.length)
theorem B3(S:Sv)(n:Nat)(l:List Int):(S.fg n l).rest=S.rest:=by simp[rest,fg]
theorem rh(S:Sv)(n:Nat)(l:List Nat):(S.cJ n l).rest=S.rest:=rfl
theorem Oz(S:Sv)(n k:Nat):(S.i9 n k).rest=S.rest:=rfl
theorem RJ(S:Sv)(l r:Int):(S.put l r).rest=S.rest:=by unfold rest;rw[ee];rfl
theorem JK(S:Sv)(n:Nat):(S.dO n).1.rest=S.rest:=by
 unfold dO rm;split
 ·rw[Oz,B3]
 ·rfl
theorem na(S:Sv)(n:Nat)(off:Int):(S.cY n off).rest=S.rest:=by
 unfold cY;split
 ·rw[B3]
 ·rfl
theorem yU(S:Sv)(n:Nat)(off:Int):(S.dC n off).1.rest=S.rest:=by
 unfold dC;split
 ·rfl
 ·unfold gM;simp only;split
  ·exact na S n off
  ·split
   ·rw[JK,na]
   ·split
    ·exact na S n off
    ·rw[RJ,na]
theorem qr(off:Int):∀(ws keep:List Nat)(S:Sv),(cg off ws keep S).1.rest=S.rest
 |[],keep,S=>by rw[cg,rh]
 |n::r,keep,S=>by
  rw[cg];try simp only
  split
  ·rw[qr off r,yU]
  ·rw[rh,yU]
theorem zM{S:Sv}{f:Nat}(h:S.head<S.T.lits.length):dE (f+1) S=
  if(cg (-(S.T.lits[S.head]!)) (S.gG (aW (-(S.T.lits[S.head]!)))) [] (S.cJ (aW (-(S.T.lits[S.head]!))) [])).2.isSome=true
  then((cg (-(S.T.lits[S.head]!)) (S.gG (aW (-(S.T.lits[S.head]!)))) [] (S.cJ (aW (-(S.T.lits[S.head]!))) [])).1,(cg (-(S.T.lits[S.head]!)) (S.gG (aW (-(S.T.lits[S.head]!)))) [] (S.cJ (aW (-(S.T.lits[S.head]!))) [])).2)
  else dE f { (cg (-(S.T.lits[S.head]!)) (S.gG (aW (-(S.T.lits[S.head]!)))) [] (S.cJ (aW (-(S.T.lits[S.head]!))) [])).1 with head:=(cg (-(S.T.lits[S.head]!)) (S.gG (aW (-(S.T.lits[S.head]!)))) [] (S.cJ (aW (-(S.T.lits[S.head]!))) [])).1.head+1 }:=by
 simp only[dE];rw[qai h];generalize cg (-(S.T.lits[S.head]!)) (S.gG (aW (-(S.T.lits[S.head]!)))) [] (S.cJ (aW (-(S.T.lits[S.head]!))) [])=q;obtain⟨J,o⟩:=q;cases o<;>simp
theorem Ok.dE:∀(f:Nat)(S:Sv),S.Ok 0->(Sv.dE f S).1.Ok 0/\(Sv.dE f S).1.rest=S.rest/\∀n,(Sv.dE f S).2=some n->n<S.list.length
 |0,S,ok=>⟨ok,rfl,fun n h=>by cases h⟩
 |f+1,S,ok=>by
  by_cases h:S.head<S.T.lits.length
  ·rw[zM h];generalize ho: -(S.T.lits[S.head]!)=off;have hb:=ok.qX h;have hc:aW off<S.watch.length:=by rw[ok.wl];exact iR (by omega) (by omega)
   have o2:(S.cJ (aW off) []).Ok (([]:List Nat).length+(S.gG (aW off)).length):=ok.cJ hc (fun n J=>by cases J) (by simp);have hv:=o2.p8 off (S.gG (aW off)) [] _ (fun n J=>ok.wb _ n J) (fun n J=>by cases J) (by show _<(S.watch.set _ _).length;rw[aw];exact hc);have hr:=qr off (S.gG (aW off)) [] (S.cJ (aW off) []);have hl:=m7 off (S.gG (aW off)) [] (S.cJ (aW off) []);rw[rh]at hr;generalize cg off (S.gG (aW off)) [] (S.cJ (aW off) [])=q at *;split
   ·exact⟨hv.1,hr,hv.2.2.2.2⟩
   ·have o:=hv.1;have hh:q.1.head=S.head:=hv.2.2.1;have pJ:S.T.lits.length<=q.1.T.lits.length:=hl;have ad:({ q.1 with head:=q.1.head+1 }:Sv).Ok 0:=⟨o.vl,o.tr,o.hi,o.hl,o.ph,o.wl,o.ll,o.wb,o.wt,o.lr,o.ln,o.lb,by show q.1.head+1<=q.1.T.lits.length;omega,o.rs⟩
    have ih:=Ok.dE f _ ad;have ab:q.1.list.length=S.list.length:=hv.2.2.2.1;exact⟨ih.1,ih.2.1.trans hr,fun n J=>by have :=ih.2.2 n J;show n<_;have e:({ q.1 with head:=q.1.head+1 }:Sv).list.length=S.list.length:=ab;omega⟩
  ·rw[pq h];exact⟨ok,rfl,fun n h=>by cases h⟩
theorem Ok.follow{S:Sv}(ok:S.Ok 0):S.follow.1.Ok 0/\S.follow.1.rest=S.rest/\∀n,S.follow.2=some n->n<S.list.length:=Ok.dE _ S ok
theorem Ak(level:Int):∀(r:List Int)(S:Sv),(eI level r S).core=S.core/\(eI level r S).used=S.used/\(eI level r S).many=S.many/\(eI level r S).cv=S.cv/\(eI level r S).bad=S.bad/\(eI level r S).T=S.T/\(eI level r S).bump=S.bump
 |[],S=>⟨rfl,rfl,rfl,rfl,rfl,rfl,rfl⟩
 |l::r,S=>by
  rw[eI];split
  ·exact⟨rfl,rfl,rfl,rfl,rfl,rfl,rfl⟩
  ·exact Ak level r _
theorem mh(S:Sv)(level:Nat):(S.back level).core=S.core/\(S.back level).used=S.used/\(S.back level).many=S.many/\(S.back level).cv=S.cv/\(S.back level).bad=S.bad/\(S.back level).T.levels.length<=S.T.levels.length/\(S.back level).bump=S.bump:=by
 unfold back;split
 ·exact⟨rfl,rfl,rfl,rfl,rfl,aq _,rfl⟩
 ·have h:=Ak level S.T.lits.reverse S;refine⟨h.1,h.2.1,h.2.2.1,h.2.2.2.1,h.2.2.2.2.1,?_,h.2.2.2.2.2.2⟩;try simp only
  rw[h.2.2.2.2.2.1];simp only[Tr.dz];try split
  all_goals first |exact aq _ | (simp only[Tr.zY,bz];omega)
theorem sJ:∀(f:Nat)(S:Sv),(dg f S).1.core=S.core/\(dg f S).1.used=S.used/\(dg f S).1.many=S.many/\(dg f S).1.cv=S.cv/\(dg f S).1.bad=S.bad
 |0,S=>⟨rfl,rfl,rfl,rfl,rfl⟩
 |f+1,S=>by
  rw[dg];split
  ·exact⟨rfl,rfl,rfl,rfl,rfl⟩
  ·simp only;split
   ·exact sJ f _
   ·exact⟨rfl,rfl,rfl,rfl,rfl⟩
theorem iz(S:Sv):S.choose.1.core=S.core/\S.choose.1.used=S.used/\S.choose.1.many=S.many/\S.choose.1.cv=S.cv/\S.choose.1.bad=S.bad:=by
 have h:=sJ (S.H.items.length+1) S;unfold choose;split
 ·exact h
 ·exact h
theorem uB(us:List Int):∀(f:Nat)(S:Sv),((bJ us f S).2=0->(bJ us f S).1.core=S.core)/\(bJ us f S).1.used=S.used/\(bJ us f S).1.many=S.many/\(bJ us f S).1.cv=S.cv/\(bJ us f S).1.bad=S.bad
 |0,S=>⟨fun _=>(iz S).1,(iz S).2⟩
 |f+1,S=>by
  rw[bJ];split
  ·simp only;split
   ·exact⟨fun h=>by simp at h,rfl,rfl,rfl,rfl⟩
   ·split
    ·exact⟨fun _=>rfl,rfl,rfl,rfl,rfl⟩
    ·exact uB us f _
  ·exact⟨fun _=>(iz S).1,(iz S).2⟩
end Sv
theorem qk{T:Tr}{f k:Nat}{l:List Int}{db:Int}(h:¬k<l.length):Sv.second T f k l db=(l,db):=by
 cases f with
 |zero=>rfl
 |succ f=>rw[Sv.second,qah h]
theorem Ou{T:Tr}{f k:Nat}{l:List Int}{db:Int}(h:k<l.length)(J:db<T.dF (tv l[k]!)):Sv.second T (f+1) k l db=Sv.second T f (k+1) (dK l 1 k) (T.dF (tv l[k]!)):=by rw[Sv.second,qai h,qai J]
theorem Ov{T:Tr}{f k:Nat}{l:List Int}{db:Int}(h:k<l.length)(J:¬db<T.dF (tv l[k]!)):Sv.second T (f+1) k l db=Sv.second T f (k+1) l db:=by rw[Sv.second,qai h,qah J]
theorem tO(w:World)(L:aO)(S:Sv)(h:bh w L S)(m:Nat)(ok:S.Ok m)(A:Option Addr)(c:Nat)(l:List Int)(hi:Ints w A c l)(hA:∀k,k∈ao A->(L.dh k).1≠L.id)(Cs:∀x∈l,-(S.vars:Int)<=x/\x<=S.vars)(hlen:l.length<=17592186044416):
  Calls Tryz.prog 163 #[.pointer (some ⟨L.a,0,none⟩), .slice A l.length c] w fun e w'=>e= .returned (.int .i64 (Sv.second S.T l.length 1 l 0).2)/\Ints w' A c (Sv.second S.T l.length 1 l 0).1/\Fr (ao A) w w':=by
 obtain⟨eH,eB⟩:∃eH,Sv.second S.T l.length 1 l 0=eH:=⟨_,rfl⟩
 rw[eB];have pT:aj (∀(J:List Int)(r:Int),(J,r)=eH->∀W,Ints W A c J->Fr (ao A) w W->(Ending.returned (.int .i64 r)= .returned (.int .i64 eH.2)/\Ints W A c eH.1/\Fr (ao A) w W)):=fun J r e W g1 g2=>by subst e;exact⟨rfl,g1,g2⟩
 have gd:=ae eB;have lP:=ok.vl;obtain⟨c0,-⟩:=h.cells;have vZ:=ae c0;have HI:=ae hi;have rY:=ae Cs;have Ql:aj (L.a∉ao A):=fun hm=>hA _ hm (by rw[h.t0]);have ad:aj (∀W,Fr (ao A) w W->TrAt W L.tL S.T):=fun W hW=>h.tr.fr hW (fun k hk hm=>hA _ hm (by rw[h.t1 k hk]));clear eB h ok hi hA Cs c0;go_enter Tryz.func163,Tryz.ntmps163;go_wp2_with fail;go_loopg [5,6] l.length (fun g x5 x6 wr=>∃(k:Nat)(J:List Int)(db:Int),k+g=l.length+1/\1<=k/\x5= .int .i64 db/\x6= .int .i64 k/\aj (Sv.second S.T g k J db=eH)/\aj (J.length=l.length)/\aj (∀x∈J,-(S.vars:Int)<=x/\x<=S.vars)/\aj (Ints wr A c J)/\aj (Fr (ao A) w wr));case atStart=>exact⟨1,l,0,by omega,by omega,rfl,rfl,gd.o,rfl,rY.o,HI.o,Fr.refl _ _⟩
 case round=>
  obtain⟨k,J,db,hk,Er,rfl,rfl,HR,HL,HB,US,HF⟩:=hrel;have HK:=ae hk;have pR:k<=l.length+1:=by omega
  clear hk;by_cases bt:k<l.length
  ·obtain⟨f,rfl⟩:∃f,gk=f+1:=⟨gk-1,by have :=HK.o;omega⟩
   have G9:k<J.length:=by rw[HL.o];exact bt
   have Mh:=ae G9;obtain⟨gb,yp,wX⟩:=US.o.pos G9;subst yp;have c0:=HF.o.bF Ql.o vZ.o;have cy:=US.o.cell G9;obtain⟨y,hy⟩:∃y,J[k]! =y:=⟨_,rfl⟩
   have Vg:=HB.o y (by rw[<-hy];exact get_mem G9);rw[hy]at cy;have HY:=ae hy;obtain⟨iO,ld⟩:=Vg;obtain⟨tn,Sz⟩:=zd iO ld lP;have e0:=Ext.cell c0;have ey:=Ext.cell cy;obtain⟨lv,oD⟩:∃lv,S.T.dF (tv y)=lv:=⟨_,rfl⟩
   have UN:=ae oD;have KV:=ae (fun u:Ext wr=>kV u.v L.tL S.T ((ad.o wr HF.o).fr u.fr (by simp)) (tv y));simp only[oD]at KV;clear hy oD G9 wX;by_cases ab:db<lv
   ·have hd:decide (db<lv)=true:=qak ab;have AP:aj (Sv.second S.T f (k+1) (dK J 1 k) lv=eH):=by have :=HR.o;rw[Ou Mh.o (by rw[HY.o,UN.o];exact ab),HY.o,UN.o]at this;exact this
    clear ab;go_wp2;refine ap ?_;repeat (go_big_quiet_step (exact bp (KV.o _)))
    refine fq ?_;intro w2 aT;clear e0 ey c0 cy tn Sz;have rL:=ae (HF.o.ak (aT.o.mono (fun k hk=>by cases hk)));have mi:=ae (US.o.fY aT.o);have cy:=mi.o.cell Mh.o;have c1:=mi.o.cell (i:=1) (by have :=Mh.o;omega);rw[HY.o]at cy;obtain⟨z,hz⟩:∃z,J[1]! =z:=⟨_,rfl⟩
    rw[hz]at c1;have HZ:=ae hz;have f1:=mi.o.frozen 1;have fk:=mi.o.frozen k;have zx:1<l.length:=(by omega)
    have Jj:=(mi.o.dL 1 y).drew;have cA:=Jj.cell (i:=k) (by rw[aw];exact Mh.o);have eA:(J.set 1 y)[k]! =y:=by
     rw[eQ];split
     ·rfl
     ·exact HY.o
    rw[eA]at cA;have fA:=Jj.frozen k;clear hz Jj eA;go_upto_region 8 with fail;go_region;have vV:=ae (((mi.o.dL 1 J[k]!).dL k J[1]!).drew);rw[HY.o,HZ.o]at vV;have Ma:aj (Ints ((w2.setCell ⟨gb,1,none⟩ (.int .i64 y)).setCell ⟨gb,k,none⟩ (.int .i64 z)).drew (some ⟨gb,0,none⟩) c (dK J 1 k)):=by have :=vV.o;unfold dK;rw[HY.o,HZ.o];exact this
    have df:aj (Fr (ao (some ⟨gb,0,none⟩)) w ((w2.setCell ⟨gb,1,none⟩ (.int .i64 y)).setCell ⟨gb,k,none⟩ (.int .i64 z)).drew):=((rL.o.setCell (.inl (by simp[ao])) _).setCell (.inl (by simp[ao])) _).drew;clear cy c1 f1 fk cA fA;go_wp2;go_roundg f;case measure=>omega
    case rel=>exact⟨k+1,dK J 1 k,lv,by have :=HK.o;omega,by omega,rfl,by go_num,AP.o,by rw[gH];exact HL.o,fun x hx=>HB.o x (tM (by have :=Mh.o;omega) Mh.o hx),Ma.o,df.o⟩
   ·have hd:decide (db<lv)=false:=qaj ab;have AP:aj (Sv.second S.T f (k+1) J db=eH):=by have :=HR.o;rw[Ov Mh.o (by rw[HY.o,UN.o];exact ab)]at this;exact this
    clear ab;go_wp2;refine ap ?_;repeat (go_big_quiet_step (exact bp (KV.o _)))
    refine fq ?_;intro w2 aT;clear e0 ey c0 cy tn Sz;have rL:=ae (HF.o.ak (aT.o.mono (fun k hk=>by cases hk)));have mi:=ae (US.o.fY aT.o);go_wp2;go_roundg f;case measure=>omega
    case rel=>exact⟨k+1,J,db,by have :=HK.o;omega,by omega,rfl,by go_num,AP.o,HL.o,HB.o,mi.o,rL.o⟩
  ·have HE:aj ((J,db)=eH):=by have :=HR.o;rw[qk (by rw[HL.o];exact bt)]at this;exact this
   have FF:=ae (pT.o _ _ HE.o wr US.o HF.o);clear HR HB;go_wp2;go_ret;exact FF.o
theorem bh.Pv{w w':World}{L:aO}{S:Sv}(h:bh w L S){H':Hp}(ht:cT w' L.hL H')(hf:Fr L.hL.fp w w'):bh w' L { S with H:=H' }:=by
 have hF:∀k,k∈L.hL.fp->k<w.heap.size->L.dh k=(L.id,2,0):=fun k hk _=>h.t2 k hk;have o:=h.off (P:=(· =(2,0))) hf (fun k hk hl=>⟨_,rfl,hF k hk hl⟩);exact⟨o.obj (by decide),o.tr (by decide),ht,h.jf,h.CJ,h.CI,o.wD (by decide),o.rws (by decide),o.wv (by decide),o.yd (by decide),o.vm (by decide),fun n J=>o.qM n J (by simp),fun n J=>o.sV n J (by simp),
  h.t0,h.t1,h.t2,h.t3,h.t4,h.t5,h.t6,h.t7,h.t8,h.t9⟩
structure nD where
 gb:Nat
 bm:Nat
 A:Option Addr
 c:Nat
def nD.own(X:nD):List Nat:=X.gb::X.bm::ao X.A
structure jl(w:World)(L:aO)(X:nD)(n:Nat)(G:Sv.Gr):Prop where
 sv:bh w L G.S
 obj:At w X.gb 183 #[.pointer (some ⟨L.a,0,none⟩), .map (some X.bm), .int .i64 G.gO, .slice X.A G.bH.length X.c]
 sn:tu w X.bm n G.seen
 ln:Ints w X.A X.c G.bH
 f1:(L.dh X.gb).1≠L.id
 f2:(L.dh X.bm).1≠L.id
 f3:∀k,k∈ao X.A->(L.dh k).1≠L.id
 fs:∀k,w.heap.size<=k->(L.dh k).1≠L.id
 d12:X.gb≠X.bm
 d3:∀k,k∈ao X.A->k≠X.gb/\k≠X.bm
theorem jl.ie{w:World}{L:aO}{X:nD}{n:Nat}{G:Sv.Gr}(h:jl w L X n G):∀k,k∈X.own->(L.dh k).1≠L.id:=by
 intro k hk;simp only[nD.own,ay]at hk;rcases hk with rfl |rfl |hk
 ·exact h.f1
 ·exact h.f2
 ·exact h.f3 k hk
theorem jl.keep{w w':World}{L:aO}{X:nD}{n:Nat}{G:Sv.Gr}(h:jl w L X n G)(J:Fr [] w w'):jl w' L X n G:=
 ⟨h.sv.keep J,h.obj.keep J,h.sn.keep J,h.ln.fY J,h.f1,h.f2,h.f3,fun k hk=>h.fs k (aE J.size hk),h.d12,h.d3⟩
theorem jl.aeA{w w':World}{L:aO}{X:nD}{n n':Nat}{G:Sv.Gr}{s:List Int}(h:jl w L X n G)(hm:tu w' X.bm n' s)(J:Fr [X.bm] w w'):jl w' L X n' { G with seen:=s }:=
 ⟨h.sv.fr J (fun k hk _=>by simp at hk;subst hk;exact h.f2),J.at_ h.obj (by simpa using h.d12),hm,h.ln.fr J (fun k hk hm=>by simp at hm;exact(h.d3 k hk).2 hm),h.f1,h.f2,h.f3,fun k hk=>h.fs k (aE J.size hk),h.d12,h.d3⟩
theorem jl.agE{w w':World}{L:aO}{X:nD}{n:Nat}{G:Sv.Gr}{H':Hp}(h:jl w L X n G)(hp:cT w' L.hL H')(J:Fr L.hL.fp w w'):jl w' L X n { G with S:={ G.S with H:=H' } }:=
 have hn:∀k,k∈X.own->k∉L.hL.fp:=fun k hk hm=>h.ie k hk (by rw[h.sv.t2 k hm])
 ⟨h.sv.Pv hp J,J.at_ h.obj (hn _ (by simp[nD.own])),h.sn.fr J (hn _ (by simp[nD.own])),h.ln.fr J (fun k hk=>hn _ (by simp[nD.own,hk])),h.f1,h.f2,h.f3,fun k hk=>h.fs k (aE J.size hk),h.d12,h.d3⟩
theorem jl.aaE{w:World}{L:aO}{X:nD}{n:Nat}{G:Sv.Gr}(h:jl w L X n G)(v:Int):jl (w.setCell ⟨X.gb,2,none⟩ (.int .i64 v)) L X n { G with gO:=v }:=by have J:Fr [X.gb] w (w.setCell ⟨X.gb,2,none⟩ (.int .i64 v)):=(Fr.refl _ w).setCell (.inl (by simp)) _;refine⟨h.sv.fr J (fun k hk _=>by simp at hk;subst hk;exact h.f1),?_,h.sn.fr J (by simpa using h.d12.symm),h.ln.fr J (fun k hk hm=>by simp at hm;exact(h.d3 k hk).1 hm),h.f1,h.f2,h.f3,fun k hk=>h.fs k (aE J.size hk),h.d12,h.d3⟩;have :=h.obj.dL 2 (.int .i64 v);simpa using this
theorem jl.aaM{w w1:World}{L:aO}{X:nD}{n:Nat}{G:Sv.Gr}(h:jl w L X n G){A':Option Addr}{c':Nat}{ls:List Int}(hi:Ints w1 A' c' ls)(hf:Fr (ao X.A) w w1)(hA:∀k,k∈ao A'->k∈ao X.A\/w.heap.size<=k):
  jl (w1.setCell ⟨X.gb,3,none⟩ (.slice A' ls.length c')) L ⟨X.gb,X.bm,A',c'⟩ n { G with bH:=ls }:=by
 have J:Fr (X.gb::ao X.A) w (w1.setCell ⟨X.gb,3,none⟩ (.slice A' ls.length c')):=(hf.mono (fun k hk=> .inl (by simp[hk]))).setCell (.inl (by simp)) _;have hF:∀k,k∈X.gb::ao X.A->(L.dh k).1≠L.id:=fun k hk=>h.ie k (by simp only[nD.own,ay]at hk⊢;rcases hk with hk |hk<;>simp[hk]);have h3:∀k,k∈ao A'->k≠X.gb/\k≠X.bm:=fun k hk=>by
  rcases hA k hk with h1 |h1
  ·exact h.d3 k h1
  ·have :=h.obj.lt;have :=h.sn.lt;omega
 refine⟨h.sv.fr J (fun k hk _=>hF k hk),?_,h.sn.fr J (by simp only[ay,not_or];exact⟨h.d12.symm,fun hk=>(h.d3 _ hk).2 rfl⟩),?_,h.f1,h.f2,fun k hk=> ?_,fun k hk=>h.fs k (aE J.size hk),h.d12,h3⟩
 ·have :=(hf.at_ h.obj (fun hk=>(h.d3 _ hk).1 rfl)).dL 3 (.slice A' ls.length c');simpa using this
 ·exact hi.ie (p:=⟨X.gb,3,none⟩) (fun hk=>(h3 _ hk).1 rfl) _
 ·rcases hA k hk with h1 |h1
  ·exact h.f3 k h1
  ·exact h.fs k h1
namespace Sv
def raise(S:Sv)(v:Int):Sv:={ S with H:=nH S.H v S.bump }
theorem Ok.raise{S:Sv}{m:Nat}(ok:S.Ok m)(v:Int):(S.raise v).Ok m:=by
 have J:HI (nH S.H v S.bump)/\(nH S.H v S.bump).at_.length=S.H.at_.length:=by
  unfold nH;split
  ·rename_i hb;obtain⟨h1,h2,h3,h4⟩:=hb;have :=ok.hi.raise h1 h2 h3 h4;exact⟨this.1,this.2.2.2.1⟩
  ·exact⟨ok.hi,rfl⟩
 exact⟨ok.vl,ok.tr,J.1,J.2.trans ok.hl,ok.ph,ok.wl,ok.ll,ok.wb,ok.wt,ok.lr,ok.ln,ok.lb,ok.hd,ok.rs⟩
theorem kN{G:Sv.Gr}{l:Int}(h:tv l∈G.seen\/G.S.T.dF (tv l)<=0):meet G l=G:=by unfold meet;simp only;rw[qai h]
theorem iM{G:Sv.Gr}{l:Int}(h:¬(tv l∈G.seen\/G.S.T.dF (tv l)<=0))(J:G.S.T.dF (tv l)=G.S.T.levels.length):meet G l={ G with S:=G.S.raise (tv l),seen:=tv l::G.seen,gO:=G.gO+1 }:=by unfold meet raise;simp only;rw[qah h,qai J]
theorem jX{G:Sv.Gr}{l:Int}(h:¬(tv l∈G.seen\/G.S.T.dF (tv l)<=0))(J:¬G.S.T.dF (tv l)=G.S.T.levels.length):meet G l={ G with S:=G.S.raise (tv l),seen:=tv l::G.seen,bH:=G.bH++[l] }:=by unfold meet raise;simp only;rw[qah h,qah J]
theorem Ok.meet{G:Sv.Gr}{m:Nat}(ok:G.S.Ok m)(l:Int):(meet G l).S.Ok m:=by
 by_cases h:tv l∈G.seen\/G.S.T.dF (tv l)<=0
 ·rw[kN h];exact ok
 ·by_cases J:G.S.T.dF (tv l)=G.S.T.levels.length
  ·rw[iM h J];exact ok.raise _
  ·rw[jX h J];exact ok.raise _
theorem Cf(G:Sv.Gr)(l:Int):(meet G l).S.T=G.S.T/\(meet G l).S.vars=G.S.vars/\(meet G l).S.list=G.S.list/\(meet G l).S.used=G.S.used/\(meet G l).gO<=G.gO+1/\G.gO<=(meet G l).gO/\(meet G l).bH.length<=G.bH.length+1:=by
 by_cases h:tv l∈G.seen\/G.S.T.dF (tv l)<=0
 ·rw[kN h];exact⟨rfl,rfl,rfl,rfl,by omega,by omega,by omega⟩
 ·by_cases J:G.S.T.dF (tv l)=G.S.T.levels.length
  ·rw[iM h J];exact⟨rfl,rfl,rfl,rfl,by simp,by simp;omega,by simp⟩
  ·rw[jX h J];exact⟨rfl,rfl,rfl,rfl,by simp;omega,by simp,by simp⟩
end Sv
def MtP(G':Sv.Gr)(L:aO)(X:nD)(n:Nat)(w:World)(e:Ending)(w':World):Prop:=
 e= .returned (.tuple #[])/\∃(J:nD)(n':Nat),jl w' L J n' G'/\n'<=n+1/\J.gb=X.gb/\J.bm=X.bm/\(∀k,k∈ao J.A->k∈ao X.A\/w.heap.size<=k)/\Fr (X.own++L.hL.fp) w w'
theorem JX(w:World)(L:aO)(X:nD)(n:Nat)(G:Sv.Gr)(h:jl w L X n G)(m:Nat)(ok:G.S.Ok m)(l:Int)(h0: -(G.S.vars:Int)<=l)(h1:l<=G.S.vars)(hn:n<maxLen)(hle:G.bH.length<17592186044416)(ho: -4611686018427387904<=G.gO)(En:G.gO<4611686018427387904):
  Calls Tryz.prog 161 #[.pointer (some ⟨X.gb,0,none⟩), .int .i64 l] w (MtP (Sv.meet G l) L X n w):=by
 have lP:=ok.vl;obtain⟨eH,eB⟩:∃eH,Sv.meet G l=eH:=⟨_,rfl⟩
 rw[eB];have gd:=ae eB;obtain⟨v,hv⟩:∃v,tv l=v:=⟨_,rfl⟩
 obtain⟨tn,Sz⟩:=zd h0 h1 lP;have Bd:=Rk h0 h1 lP;rw[hv]at tn Bd;have HV:=ae hv;have HG:=ae h;have lh:=ae ok;have g0:=h.obj.cell 0;have g1:=h.obj.cell 1;simp only[dj,cD,cK]at g0 g1;obtain⟨c0,c1,-,-,-,-,-,-,-,-,PX,-⟩:=h.sv.cells;have vZ:=ae c0;have pX:=ae c1;have bo:=ae PX;have CX:=ae g0;have YI:=ae g1;clear eB hv;by_cases hs:v∈G.seen
 ·have kk:=h.sn.look (v:=v) ⟨by omega,by omega⟩;have up:decide (v∈G.seen)=true:=qak hs;rw[up]at kk;have HR:aj (eH=G):=by rw[<-gd.o];exact Sv.kN (.inl (by rw[HV.o];exact hs))
  have hr:=HR.o.symm;subst hr;have FF:aj (MtP G L X n w (.returned (.tuple #[])) w):=⟨rfl,X,n,HG.o,by omega,rfl,rfl,fun k hk=> .inl hk,Fr.refl _ _⟩
  clear hs up h ok;go_enter Tryz.func161,Tryz.ntmps161;go_wp2_with fail;refine bodyPost_ret (results_none rfl _ _ _) rfl ?_;exact FF.o
 ·have kk:=h.sn.look (v:=v) ⟨by omega,by omega⟩;have up:decide (v∈G.seen)=false:=qaj hs;rw[up]at kk;have KV:=ae (kV w L.tL G.S.T h.sv.tr v);obtain⟨lv,oD⟩:∃lv,G.S.T.dF v=lv:=⟨_,rfl⟩
  rw[oD]at KV;have UN:=ae oD;have HS:=ae hs;clear up oD hs;by_cases hz:lv<=0
  ·have hd:decide (lv<=0)=true:=qak hz;have HR:aj (eH=G):=by rw[<-gd.o];exact Sv.kN (.inr (by rw[HV.o,UN.o];exact hz))
   have hr:=HR.o.symm;subst hr;have FF:aj (MtP G L X n w (.returned (.tuple #[])) w):=⟨rfl,X,n,HG.o,by omega,rfl,rfl,fun k hk=> .inl hk,Fr.refl _ _⟩
   clear hz h ok;go_enter Tryz.func161,Tryz.ntmps161;go_wp2_with fail;refine KV.o.mono ?_;clear KV;rintro e w1 ⟨rfl,rfl⟩;go_wp2_with fail;refine bodyPost_ret (results_none rfl _ _ _) rfl ?_;exact FF.o
  ·have hd:decide (lv<=0)=false:=qaj hz;have Ql:aj (¬(tv l∈G.seen\/G.S.T.dF (tv l)<=0)):=by
    rw[HV.o];show ¬_;rintro(h5 |h5)
    ·exact HS.o h5
    ·rw[UN.o]at h5;exact hz h5
   obtain⟨w1,Nk,sl,di⟩:=h.sn.store (v:=v) hn ⟨by omega,by omega⟩;have aK:=ae (h.aeA sl di);have dZ:=ae di;have bg:aj (X.gb∉[X.bm]):=by show ¬_;simpa using h.d12
   have Fc:aj (L.a∉[X.bm]):=by show ¬_;simp only[ag];intro e;exact h.f2 (by rw[<-e,h.sv.t0])
   have YQ:=ae (di.bF bg.o CX.o);have FB:=ae (di.bF Fc.o pX.o);have bI:=ae (di.bF Fc.o vZ.o);have bj:=ae (di.bF Fc.o bo.o);have KR:=ae (fun W (hW:Fr [] w1 W)=>Hm W L.hL G.S.H (aK.o.sv.hp.fr hW (by simp)) lh.o.hi v (G.S.bump:Int));clear hz h ok sl di;go_enter Tryz.func161,Tryz.ntmps161;go_wp2_with fail;refine KV.o.mono ?_;clear KV;rintro e w2 ⟨rfl,rfl⟩;clear kk;go_upto_region 3 with fail;clear Nk g0 g1 c0 c1 PX tn Sz;refine qan ?_;refine bw (fun w':World=>Fr [] w1 w') 15 (by kernel_rfl) ((Fr.refl [] w1).drew) (fun dy=> ?_);refine oI 15 [(0,[]),(1,[]),(2,[]),(3,[3,4,5,6,15]),(4,[]),(5,[]),(6,[6,15]),(7,[]),(8,[]),(9,[]),(10,[]),(11,[11,12,13,14,15]),(12,[]),(13,[]),(14,[14,15])] dy (fun w bT=>And.intro (bT.aF YQ.o) (And.intro (bT.aF FB.o) (bT.aF bj.o))) ?_;intro dy;refine R2 15 dy fun K hK aM=> ?_
   (go_simp;refine(KR.o _ aM).mono ?_;rintro e w5 ⟨rfl,ba,fT⟩;dsimp only)
   refine hK.out _ _ (.inl rfl) (fun lR=> ?_);clear hK K;try simp only[Act.put,q5,q6,q7]
   refine fO ?_;have U9:=ae ((aK.o.keep aM).agE ba fT);have dG:aj (Fr (X.own++L.hL.fp) w w5):=((dZ.o.mono (fun k hk=> .inl (by simp at hk;simp[nD.own,hk]))).ak (aM.mono (fun k hk=>by cases hk))).ak (fT.mono (fun k hk=> .inl (by simp[hk])));clear ba fT KR;have g0:=U9.o.obj.cell 0;simp only[dj,cK]at g0;obtain⟨c0,-⟩:=U9.o.sv.cells;have e0:=Ext.cell c0;have eg:=Ext.cell g0;have KV:=ae (fun u:Ext w5=>kV u.v L.tL G.S.T (U9.o.sv.tr.fr u.fr (by simp)) v);have KD:=ae (fun u:Ext w5=>m9 u.v L.tL G.S.T (U9.o.sv.tr.fr u.fr (by simp)));simp only[UN.o]at KV;obtain⟨d,aB⟩:∃d,G.S.T.levels.length=d:=⟨_,rfl⟩
   simp only[aB]at KD;have U5:=ae aB;clear aB;by_cases heq:lv=(d:Int)
   ·have bB:(lv==(d:Int))=true:=by simp[heq]
    have HR:aj (eH={ G with S:=G.S.raise v,seen:=v::G.seen,gO:=G.gO+1 }):=by rw[<-gd.o,Sv.iM Ql.o (by rw[HV.o,UN.o,U5.o];exact heq),HV.o];rfl
    clear heq;go_wp2;refine ap ?_;repeat (go_big_quiet_step (first |exact bp (KV.o _) |exact bp (KD.o _)))
    refine fq ?_;intro J I0;clear e0 eg g0 c0;have Jv:=ae (U9.o.keep I0.o);have ic:=ae (dG.o.ak (I0.o.mono (fun k hk=>by cases hk)));have g2:=Jv.o.obj.cell 2;have fz:=Jv.o.obj.frozen 2;simp only[dj,cD,cK]at g2;have eo:IntKind.i64.wrap (G.gO+1)=G.gO+1:=IntWalk.i64_in _ (by omega);have FF:aj (MtP eH L X n w (.returned (.tuple #[])) (J.setCell ⟨X.gb,2,none⟩ (.int .i64 (G.gO+1)))):=
     ⟨rfl,X,n+1,by rw[HR.o];exact Jv.o.aaE (G.gO+1),aq _,rfl,rfl,fun k hk=> .inl hk,ic.o.setCell (.inl (by simp[nD.own])) _⟩
    go_wp2_with fail;refine bodyPost_ret (results_none rfl _ _ _) rfl ?_;exact FF.o
   ·have bB:(lv==(d:Int))=false:=by simp[heq]
    have HR:aj (eH={ G with S:=G.S.raise v,seen:=v::G.seen,bH:=G.bH++[l] }):=by rw[<-gd.o,Sv.jX Ql.o (by rw[HV.o,UN.o,U5.o];exact heq),HV.o];rfl
    clear heq;go_wp2;refine ap ?_;repeat (go_big_quiet_step (first |exact bp (KV.o _) |exact bp (KD.o _)))
    refine fq ?_;intro J I0;clear e0 eg g0 c0;have Jv:=ae (U9.o.keep I0.o);have ic:=ae (dG.o.ak (I0.o.mono (fun k hk=>by cases hk)));have g3:=Jv.o.obj.cell 3;simp only[dj,cD,cK]at g3;have qS:=ae g3;have tB:aj (Fr [] J (J.alloc (.cells #[.int .i64 l] 3))):=aR _ _;have U7:aj ((J.alloc (.cells #[.int .i64 l] 3)).cell? ⟨J.heap.size,0,none⟩=some (.int .i64 l)):=(At.new J _ _).cell 0;have US:=ae (Jv.o.ln.fY tB.o);have CS:aj (∀w7,Fr (ao X.A) (J.alloc (.cells #[.int .i64 l] 3)) w7->w7.cell? ⟨X.gb,3,none⟩=some (.slice X.A G.bH.length X.c)/\w7.frozen? ⟨X.gb,3,none⟩=false):=fun w7 jg=>by have Bg:X.gb∉ao X.A:=fun hk=>(Jv.o.d3 _ hk).1 rfl;have a1:=tB.o.aF qS.o;have bt:=(Jv.o.keep tB.o).obj.frozen 3;exact⟨jg.bF Bg a1,(World.frozen?_of_block (jg.block X.gb (bR a1) Bg)).trans bt⟩
    have I3:aj (G.bH.length<17592186044416):=hle;go_wp2_with (at_builtin;(refine cL _ rfl _ _ rfl X.A X.c G.bH _ rfl rfl US.o ⟨J.heap.size,0,none⟩ 1 l rfl U7.o I3.o ?_;intro g7 aT w7 AJ jg Tk bG;obtain⟨s7,f7⟩:=CS.o w7 jg))
    have ab:Fr (ao X.A) J w7:=(tB.o.mono (fun k hk=>by cases hk)).ak jg;have ad:∀k,k∈ao (some (⟨g7,0,none⟩:Addr))->k∈ao X.A\/J.heap.size<=k:=fun k hk=>by
     simp[ao]at hk;subst hk;rcases Tk with h5 |h5
     ·exact .inl h5
     ·right
      rw[h5];simp
    have ar:=Jv.o.aaM AJ ab ad;rw[an,aV]at ar;have bb:w.heap.size<=J.heap.size:=ic.o.size;have FF:=ae (show MtP eH L X n w (.returned (.tuple #[])) (w7.setCell ⟨X.gb,3,none⟩ (.slice (some ⟨g7,0,none⟩) (G.bH.length+1) aT))from
     ⟨rfl,⟨X.gb,X.bm,some ⟨g7,0,none⟩,aT⟩,n+1,by rw[HR.o];exact ar,aq _,rfl,rfl,fun k hk=>(ad k hk).imp id (fun h5=>aE bb h5),(ic.o.ak (ab.mono (fun k hk=> .inl (by simp[nD.own,hk])))).setCell (.inl (by simp[nD.own])) _⟩)
    clear ar AJ jg Tk bG ab ad bb;go_wp2_with fail;refine bodyPost_ret (results_none rfl _ _ _) rfl ?_;exact FF.o
theorem bh.act{w:World}{L:aO}{S:Sv}(h:bh w L S){n:Nat}(hn:n<L.cs.length){gc:Nat}(km:L.cA=some ⟨gc,0,none⟩)(x:Int):
  w.frozen? ⟨gc,n*3+2,none⟩=false/\bh (w.setCell ⟨gc,n*3+2,none⟩ (.int .i64 x)) { L with cs:=L.cs.set n { L.cs[n]! with act:=x } } { S with list:=S.list.set n { S.rc n with act:=x } }/\
   Fr [gc] w (w.setCell ⟨gc,n*3+2,none⟩ (.int .i64 x))/\(L.dh gc).1=L.id:=by
 have r:=h.wD;unfold uN at r;rw[km]at r;have mH:L.dh gc=(L.id,3,0):=h.t3 gc (by rw[km];simp[ao]);have hf:Fr [gc] w (w.setCell ⟨gc,n*3+2,none⟩ (.int .i64 x)):=(Fr.refl _ w).setCell (.inl (by simp)) _;have o:=h.off (P:=(· =(3,0))) hf (fun k hk hl=>⟨_,rfl,by simp at hk;subst hk;exact mH⟩);have pO:=(World.ownsRow.stored r (n*3+2) (.int .i64 x)).1;have fJ:=h.sh hn;have rS:∀j:Nat,(L.cs.set n { L.cs[n]! with act:=x })[j]! =if n=j/\n<L.cs.length then{ L.cs[n]! with act:=x }else L.cs[j]! :=fun j=>eQ _ _ _ _;have hA:∀j:Nat,((L.cs.set n { L.cs[n]! with act:=x })[j]!).A=(L.cs[j]!).A/\((L.cs.set n { L.cs[n]! with act:=x })[j]!).c=(L.cs[j]!).c/\((L.cs.set n { L.cs[n]! with act:=x })[j]!).lits=(L.cs[j]!).lits:=fun j=>by
  rw[rS];split
  ·rename_i e;rw[e.1];exact⟨rfl,rfl,rfl⟩
  ·exact⟨rfl,rfl,rfl⟩
 refine⟨World.ownsRow.frozenAt r _,⟨?_,o.tr (by decide),o.hp (by decide),h.jf,?_,h.CI,?_,o.rws (by decide),o.wv (by decide),o.yd (by decide),o.vm (by decide),fun j J=> ?_,fun c hc=>o.sV c hc (by simp),
  h.t0,h.t1,h.t2,h.t3,h.t4,h.t5,h.t6,h.t7,fun j J k hk=> ?_,h.t9⟩,hf,by rw[mH]⟩
 ·have :=o.obj (by decide);simp only[qm,aw]at this⊢;exact this
 ·simp only;rw[<-h.CJ,List.map_set];congr 1;rw[fJ];rfl
 ·unfold uN;obtain⟨g0,g1,g2⟩:=oF L.cs n hn;have e:(fP L.cs).set (n*3+2) (.int .i64 x)=fP (L.cs.set n { L.cs[n]! with act:=x }):=by rw[<-rE L.cs n _ hn];simp only;rw[mp g0,mp g1]
  simp only[aw];rw[<-e,km];exact pO
 ·simp only[aw]at J;obtain⟨e1,e2,e3⟩:=hA j;simp only;rw[e1,e2,e3];exact o.qM j J (by simp)
 ·simp only[aw]at J;simp only at hk;rw[(hA j).1]at hk;exact h.t8 j J k hk
theorem jl.act{w:World}{L:aO}{X:nD}{nm:Nat}{G:Sv.Gr}(h:jl w L X nm G){n:Nat}(J:n<L.cs.length){gc:Nat}(km:L.cA=some ⟨gc,0,none⟩)(x:Int):
  jl (w.setCell ⟨gc,n*3+2,none⟩ (.int .i64 x)).drew { L with cs:=L.cs.set n { L.cs[n]! with act:=x } } X nm { G with S:={ G.S with list:=G.S.list.set n { G.S.rc n with act:=x } } }:=by
 obtain⟨h1,h2,h3,h4⟩:=h.sv.act J km x;have J:∀k,k∈X.own->k∉[gc]:=fun k hk hm=>h.ie k hk (by simp at hm;rw[hm];exact h4);have h5:=h2.keep (Fr.refl [] _).drew;have h6:=h3.drew;exact⟨h5,h6.at_ h.obj (J _ (by simp[nD.own])),h.sn.fr h6 (J _ (by simp[nD.own])),h.ln.fr h6 (fun k hk=>J _ (by simp[nD.own,hk])),h.f1,h.f2,h.f3,fun k hk=>h.fs k (aE h6.size hk),h.d12,h.d3⟩
theorem jl.new{w:World}{L:aO}{S:Sv}(h:bh w L S):
  jl (((w.alloc (.map #[] 0)).alloc (.cells #[.int .i64 0] 3)).alloc (.cells #[.pointer (some ⟨L.a,0,none⟩), .map (some w.heap.size), .int .i64 0, .slice (some ⟨w.heap.size+1,0,none⟩) 1 1] 183)) (L.shut w)
   ⟨w.heap.size+1+1,w.heap.size,some ⟨w.heap.size+1,0,none⟩,1⟩ 0 ⟨S,[],0,[0]⟩:=by
 have di:Fr [] w (w.alloc (.map #[] 0)):=aR _ _;have cE:Fr [] (w.alloc (.map #[] 0)) ((w.alloc (.map #[] 0)).alloc (.cells #[.int .i64 0] 3)):=aR _ _;have J:Fr [] ((w.alloc (.map #[] 0)).alloc (.cells #[.int .i64 0] 3)) (((w.alloc (.map #[] 0)).alloc (.cells #[.int .i64 0] 3)).alloc (.cells #[.pointer (some ⟨L.a,0,none⟩), .map (some w.heap.size), .int .i64 0, .slice (some ⟨w.heap.size+1,0,none⟩) 1 1] 183)):=aR _ _;have jC:∀k,w.heap.size<=k->((L.shut w).dh k).1≠(L.shut w).id:=fun k hk=>aO.ja hk;refine⟨h.shut.keep ((di.ak cE).ak J),?_,(tu.new w).keep (cE.ak J),?_,jC _ (by simp only;omega),jC _ (aq _),fun k hk=>jC k (by simp[ao]at hk;omega),fun k hk=>jC k (aE ((di.ak cE).ak J).size hk),by simp only;omega,fun k hk=>by simp[ao]at hk;subst hk;simp⟩
 ·have :=At.new ((w.alloc (.map #[] 0)).alloc (.cells #[.int .i64 0] 3)) 183 #[.pointer (some ⟨L.a,0,none⟩), .map (some w.heap.size), .int .i64 0, .slice (some ⟨w.heap.size+1,0,none⟩) 1 1];rwa[show((w.alloc (.map #[] 0)).alloc (.cells #[.int .i64 0] 3)).heap.size=w.heap.size+1+1 from by simp]at this
 ·have :Ints ((w.alloc (.map #[] 0)).alloc (.cells #[.int .i64 0] 3)) (some ⟨(w.alloc (.map #[] 0)).heap.size,0,none⟩) 1 [0]:=World.ownsRow_lit (w.alloc (.map #[] 0)) #[.int .i64 0] 1 (aU _) (by simp[maxLen]) (by simp);rw[show(w.alloc (.map #[] 0)).heap.size=w.heap.size+1 from by simp]at this;exact this.fY J
theorem jl.fg{w:World}{L:aO}{X:nD}{n:Nat}{G:Sv.Gr}(h:jl w L X n G){J:Nat}(hA:X.A=some ⟨J,0,none⟩)(v:Int):jl (w.setCell ⟨J,0,none⟩ (.int .i64 v)) L X n { G with bH:=G.bH.set 0 v }:=by
 have rB:J∈ao X.A:=by rw[hA];simp[ao]
 have hf:Fr [J] w (w.setCell ⟨J,0,none⟩ (.int .i64 v)):=(Fr.refl _ w).setCell (.inl (by simp)) _;have hd:=h.d3 J rB;have hl:=h.ln;rw[hA]at hl;refine⟨h.sv.fr hf (fun k hk _=>by simp at hk;subst hk;exact h.f3 _ rB),?_,h.sn.fr hf (by simpa using hd.2.symm),?_,h.f1,h.f2,h.f3,fun k hk=>h.fs k (aE hf.size hk),h.d12,h.d3⟩
 ·have :=hf.at_ h.obj (by simpa using hd.1.symm);simpa using this
 ·rw[hA];exact hl.dL 0 v
theorem jl.aaB{w wr w':World}{L J:aO}{X:nD}{n:Nat}{G:Sv.Gr}(h:jl wr J X n G)(he:L.ext J w)(hF:Fr (L.own w) w wr)(hX:∀k,k∈X.own->w.heap.size<=k)(hf:Fr (X.own++J.hL.fp) wr w'):Fr (L.own w) w w':=
 hF.trans hf fun k hk=>by
  rcases bN k w.heap.size with hl |hl
  ·left
   rw[aO.cj];refine⟨hl,?_⟩;rcases ah.1 hk with h1 |h1
   ·have :=hX k h1;omega
   ·exact he.2.2 k hl (by rw[h.sv.t2 k h1];exact he.2.1)
  ·exact .inr hl
theorem ij(T:Tr):∀(f k:Nat)(l:List Int)(db:Int),(Sv.second T f k l db).1.length=l.length
 |0,k,l,db=>rfl
 |f+1,k,l,db=>by
  rw[Sv.second];split
  ·split
   ·rw[ij T f,gH]
   ·rw[ij T f]
  ·rfl
namespace Sv
def eu(G:Gr)(n skip:Int):Gr:=if 0<=n then meets skip (G.S.rc n.toNat).lits { G with S:=G.S.iV n.toNat }else G
def eO(f:Nat)(J:Gr)(rest:List Int):Option (Gr×Int):=
 match rest.dropWhile (fun x=>decide (tv x∉J.seen))with
 |[]=>none
 |x::r=>if J.gO-1=0 then some ({ J with gO:=J.gO-1 },x)else fX f { J with gO:=J.gO-1 } (J.S.T.fV (tv x)-1) x r
theorem me(f:Nat)(G:Gr)(n skip:Int)(rest:List Int):fX (f+1) G n skip rest=eO f (eu G n skip) rest:=by rw[fX];show _=eO f (eu G n skip) rest;unfold eO eu;simp only;cases List.dropWhile _ rest<;>rfl
theorem kX(G:Gr)(n skip:Int)(rest:List Int):fX 0 G n skip rest=none:=rfl
theorem zh(f:Nat)(G:Gr):eO f G []=none:=rfl
theorem wM{f:Nat}{G:Gr}{x:Int}{r:List Int}(h:tv x∉G.seen):eO f G (x::r)=eO f G r:=by unfold eO;rw[List.dropWhile_cons,qai (by simpa using h)]
theorem zj{f:Nat}{G:Gr}{x:Int}{r:List Int}(h:tv x∈G.seen)(J:G.gO-1=0):eO f G (x::r)=some ({ G with gO:=G.gO-1 },x):=by unfold eO;rw[List.dropWhile_cons,qah (by simpa using h)];simp only;rw[qai J]
theorem Ci{f:Nat}{G:Gr}{x:Int}{r:List Int}(h:tv x∈G.seen)(J:¬G.gO-1=0):eO f G (x::r)=fX f { G with gO:=G.gO-1 } (G.S.T.fV (tv x)-1) x r:=by unfold eO;rw[List.dropWhile_cons,qah (by simpa using h)];simp only;rw[qah J]
structure pE(S:Sv)(m:Nat)(G:Gr):Prop where
 T:G.S.T=S.T
 vars:G.S.vars=S.vars
 used:G.S.used=S.used
 len:G.S.list.length=S.list.length
 ok:G.S.Ok m
 lr:∀x∈G.bH,-(S.vars:Int)<=x/\x<=S.vars
 l0:0<G.bH.length
theorem pE.meet{S:Sv}{m:Nat}{G:Gr}(h:pE S m G){l:Int}(hl: -(S.vars:Int)<=l/\l<=S.vars):pE S m (meet G l):=by
 have hs:=Cf G l;refine⟨hs.1.trans h.T,hs.2.1.trans h.vars,hs.2.2.2.1.trans h.used,by rw[hs.2.2.1];exact h.len,h.ok.meet l,?_,?_⟩
 ·by_cases h1:tv l∈G.seen\/G.S.T.dF (tv l)<=0
  ·rw[kN h1];exact h.lr
  ·by_cases h2:G.S.T.dF (tv l)=G.S.T.levels.length
   ·rw[iM h1 h2];exact h.lr
   ·rw[jX h1 h2];intro x J;rcases ah.1 J with J |J
    ·exact h.lr x J
    ·simp at J;rw[J];exact hl
 ·by_cases h1:tv l∈G.seen\/G.S.T.dF (tv l)<=0
  ·rw[kN h1];exact h.l0
  ·by_cases h2:G.S.T.dF (tv l)=G.S.T.levels.length
   ·rw[iM h1 h2];exact h.l0
   ·rw[jX h1 h2];simp
theorem tW(S:Sv)(n j:Nat):((S.iV n).rc j).lits=(S.rc j).lits/\(S.iV n).list.length=S.list.length:=by
 have :(S.iV n).rc j=if n=j/\n<S.list.length then{ S.rc n with act:=S.used }else S.rc j:=eQ _ _ _ _;rw[this];constructor
 ·split
  ·rename_i e;rw[e.1]
  ·rfl
 ·simp[iV]
theorem Ok.iV{S:Sv}{m:Nat}(ok:S.Ok m)(n:Nat):(S.iV n).Ok m:=by have e:=fun j=>(tW S n j).1;have el:=(tW S n n).2;exact⟨ok.vl,ok.tr,ok.hi,ok.hl,ok.ph,ok.wl,by rw[el];exact ok.ll,fun c k hk=>by rw[el];exact ok.wb c k hk,by rw[el];exact ok.wt,fun j x J=>by rw[e]at J;exact ok.lr j x J,fun j=>by rw[e];exact ok.ln j,fun j=>by rw[e];exact ok.lb j,ok.hd,fun v=>by rw[el];exact ok.rs v⟩
theorem pE.iV{S:Sv}{m:Nat}{G:Gr}(h:pE S m G)(n:Nat):pE S m { G with S:=G.S.iV n }:=
 ⟨h.T,h.vars,h.used,(tW G.S n n).2.trans h.len,h.ok.iV n,h.lr,h.l0⟩
theorem pE.gO{S:Sv}{m:Nat}{G:Gr}(h:pE S m G)(v:Int):pE S m { G with gO:=v }:=⟨h.T,h.vars,h.used,h.len,h.ok,h.lr,h.l0⟩
end Sv
def LdP(J:Sv)(l:List Int)(db:Int)(L:aO)(w:World)(e:Ending)(w':World):Prop:=
 ∃(A':Option Addr)(c':Nat),e= .returned (.tuple #[.slice A' l.length c', .int .i64 db])/\∃L',bh w' L' J/\L.ext L' w/\Ints w' A' c' l/\(∀k,k∈ao A'->w.heap.size<=k/\(L'.dh k).1≠L'.id)/\Fr (L.own w) w w'
theorem Ba(w:World)(L:aO)(S:Sv)(h:bh w L S)(m:Nat)(ok:S.Ok m)(n:Nat)(hn:n<S.list.length)(S1:Sv)(l:List Int)(db:Int)(gz:S.iN n=some (S1,l,db)):
  Calls Tryz.prog 138 #[.pointer (some ⟨L.a,0,none⟩), .int .i64 n] w (LdP S1 l db L w):=by
 have lP:=ok.vl;have nV:=ok.ll;have dV:=ok.io;obtain⟨GE,xe,cr,Jj,hl,Kz⟩:∃(GE:Sv.Gr)(xe:Int),Sv.fX (S.T.lits.length+1) ⟨S,[],0,[0]⟩ n 0 S.T.lits.reverse=some (GE,xe)/\GE.S=S1/\
   (Sv.second GE.S.T (GE.bH.set 0 (-xe)).length 1 (GE.bH.set 0 (-xe)) 0).1=l/\(Sv.second GE.S.T (GE.bH.set 0 (-xe)).length 1 (GE.bH.set 0 (-xe)) 0).2=db:=by
  unfold Sv.iN at gz;cases hq:Sv.fX (S.T.lits.length+1) ⟨S,[],0,[0]⟩ n 0 S.T.lits.reverse with
  |none=>rw[hq]at gz;cases gz
  |some q=>
   obtain⟨G,x⟩:=q;rw[hq]at gz;simp only[Option.some.injEq,Prod.mk.injEq]at gz;exact⟨G,x,rfl,gz.1,gz.2.1,gz.2.2⟩
 have rK:=ae cr;have Qj:=ae Jj;have HL:=ae hl;have YE:=ae Kz;have lh:=ae ok;have CX:=ae (jl.new h);have cn:aj (Sv.pE S m ⟨S,[],0,[0]⟩):=⟨rfl,rfl,rfl,rfl,ok,fun x hx=>by simp at hx;subst hx;omega,by simp⟩
 have b5:=ae (L.og w);have Fg:aj (Fr [] w (((w.alloc (.map #[] 0)).alloc (.cells #[.int .i64 0] 3)).alloc (.cells #[.pointer (some ⟨L.a,0,none⟩), .map (some w.heap.size), .int .i64 0, .slice (some ⟨w.heap.size+1,0,none⟩) 1 1] 183))):=(((Fr.refl [] w).alloc _).alloc _).alloc _;have c0:=Fg.o.aF h.cells.1;have Eo:=@run_makeMap Tryz.prog;have KL:=ae (mc _ L.tL S.T (h.tr.fr Fg.o (by simp)));have eo:IntKind.i64.wrap ((S.T.lits.length:Int)-1)=(S.T.lits.length:Int)-1:=IntWalk.i64_in _ (by omega);clear cr Jj hl Kz gz h ok;go_enter Tryz.func138,Tryz.ntmps138;go_wp2_with fail;refine KL.o.mono ?_;clear KL;rintro e w1 ⟨rfl,hw⟩;obtain⟨W1,iQ⟩:∃W1,W1=w1:=⟨_,rfl⟩
 rw[hw]at CX Fg;have dZ:w.heap.size+1<w1.heap.size:=by rw[<-hw];simp
 clear hw Eo c0 iQ W1;go_wp2_with fail;clear eo;go_loopg [1,7,8] (S.T.lits.length+1) (fun g x1 x7 x8 wr=>∃(J:Sv.Gr)(n1 sk:Int)(j:Nat)(L1:aO)(X1:nD)(nm:Nat),x1= .int .i64 n1/\x7= .int .i64 sk/\x8= .int .i64 ((j:Int)-1)/\j<=S.T.lits.length/\ -1<=n1/\n1<S.list.length/\ -(S.vars:Int)<=sk/\sk<=S.vars/\
   aj (Sv.fX g J n1 sk (S.T.lits.take j).reverse=some (GE,xe))/\aj (jl wr L1 X1 nm J)/\aj (Sv.pE S m J)/\aj (nm+1048577*g<=300000000000/\J.bH.length+1048577*g<=300000000001/\J.gO+1048577*(g:Int)<=300000000000/\(g:Int)-262145<=J.gO)/\
   aj (X1.gb=w.heap.size+1+1)/\aj (∀k,k∈X1.own->w.heap.size<=k)/\aj (L.ext L1 w)/\aj (Fr (L.own w) w wr))
 case atStart=>exact⟨⟨S,[],0,[0]⟩,n,0,S.T.lits.length,L.shut w,_,0,rfl,rfl,rfl,aq _,by omega,by omega,by omega,by omega,by rw[cN];exact rK.o,CX.o,cn.o,⟨by omega,by simp;omega,by simp;omega,by simp;omega⟩,rfl,fun k hk=>by simp[nD.own,ao]at hk;omega,b5.o,Fg.o.mono (fun k hk=>by cases hk)⟩
 case round=>
  obtain⟨J,n1,sk,j,L1,X1,nm,rfl,rfl,rfl,hj,rP,tm,dU,dN,HR,HB,HN,ab,ZW,Q3,HE,HF⟩:=hrel;obtain⟨f,rfl⟩:∃f,gk=f+1:=⟨gk-1,by
   rcases gk with _ |g
   ·exact absurd HR.o (by rw[Sv.kX];simp)
   ·omega⟩
  have tz:aj (Sv.eO f (Sv.eu J n1 sk) (S.T.lits.take j).reverse=some (GE,xe)):=by rw[<-Sv.me];exact HR.o
  clear HR rK CX cn b5 Fg;by_cases hp:0<=n1
  ·obtain⟨nn,rfl⟩:∃nn:Nat,n1=nn:=⟨n1.toNat,by omega⟩
   have Bg:nn<S.list.length:=by omega
   have um:nn<L1.cs.length:=by rw[HB.o.sv.pN,HN.o.len];exact Bg
   obtain⟨gc,km,x0,x1,x2⟩:=HB.o.sv.sg um;have fJ:=HB.o.sv.sh um;obtain⟨wY,-⟩:=HB.o.sv.act um km J.S.used;have Az:=ae (HB.o.act um km J.S.used);have kF:(L1.cs.set nn { L1.cs[nn]! with act:=(J.S.used:Int) })[nn]! ={ L1.cs[nn]! with act:=(J.S.used:Int) }:=by rw[eQ,qai ⟨rfl,um⟩]
   obtain⟨⟨A,c,ls,b,ac⟩,hx⟩:∃x,L1.cs[nn]! =x:=⟨_,rfl⟩
   rw[hx]at x0 fJ kF Az;simp only[Cw.rc]at x0 fJ Az;have cG:=ae kF;have ch:=ae (HN.o.iV nn);have so:(J.S.rc nn).lits=ls:=by rw[fJ]
   have Fc:aj (L1.a=L.a):=HE.o.1;obtain⟨c0,-,-,c3,-,-,-,-,-,c9,-⟩:=HB.o.sv.cells;rw[Fc.o]at c0 c3 c9;rw[km]at c3;have AI:L1.cs.length=S.list.length:=by rw[HB.o.sv.pN,HN.o.len]
   rw[AI]at c3;obtain⟨-,-,-,d3,-⟩:=Az.o.sv.cells;simp only[aw]at d3;rw[Fc.o,km,AI]at d3;have y0:((wr.setCell ⟨gc,nn*3+2,none⟩ (.int .i64 J.S.used)).drew).cell? ⟨gc,nn*3,none⟩=some (.slice A ls.length c):=by
    have bj:nn<(L1.cs.set nn { A:=A,c:=c,lits:=ls,nI:=b,act:=(J.S.used:Int) }).length:=by rw[aw];exact um
    obtain⟨g',pK,z0,-,-⟩:=Az.o.sv.sg bj;rw[km]at pK;obtain rfl :gc=g':=by simpa using pK
    rw[kF]at z0;exact z0
   have bg:aj (Ints (wr.setCell ⟨gc,nn*3+2,none⟩ (.int .i64 J.S.used)).drew A c ls):=by
    have bj:nn<(L1.cs.set nn { A:=A,c:=c,lits:=ls,nI:=b,act:=(J.S.used:Int) }).length:=by rw[aw];exact um
    have :=Az.o.sv.qM nn bj;rw[kF]at this;exact this
   have c4:aj (∀k,k∈ao A->(L1.dh k).1=L1.id):=fun k hk=>by have :=HB.o.sv.t8 nn um k (by rw[hx];exact hk);rw[this]
   have cb:aj (∀k,k∈ao A->L1.dh k=(L1.id,8,nn)):=fun k hk=>HB.o.sv.t8 nn um k (by rw[hx];exact hk);have a1:aj (ls.length<=1048576):=by have :=HN.o.ok.lb nn;rw[so]at this;exact this
   have rY:aj (∀x∈ls,-(S.vars:Int)<=x/\x<=S.vars):=fun x hx=>by have :=HN.o.ok.lr nn x (by rw[so];exact hx);rw[HN.o.vars]at this;exact this.2
   have CU:aj (Sv.eu J nn sk=Sv.meets sk ls { J with S:=J.S.iV nn }):=by show _=_;unfold Sv.eu;rw[qai (by omega),Int.toNat_natCast,so]
   have df:aj (Fr (L.own w) w (wr.setCell ⟨gc,nn*3+2,none⟩ (.int .i64 J.S.used)).drew):=(HF.o.setCell (by
    rcases bN gc w.heap.size with hl |hl
    ·left
     rw[aO.cj];exact⟨hl,HE.o.2.2 gc hl (by rw[HB.o.sv.t3 gc (by rw[km];simp[ao])];exact HE.o.2.1)⟩
    ·exact .inr hl) _).drew
   have cO:aj (∀k,k∈X1.own->w.heap.size<=k):=Q3.o;clear kF fJ hx so km AI;go_wp2;go_region;obtain⟨W2,ZF⟩:∃W,(wr.setCell ⟨gc,nn*3+2,none⟩ (.int .i64 J.S.used)).drew=W:=⟨_,rfl⟩
   rw[ZF]at Az d3 y0 bg df⊢;have dx:=Az.o.sv.cells.1;clear ZF c0 c3 c9 x0 x1 x2 wY HB;go_wp2_with fail;clear d3 y0 dx;obtain⟨L2,bO⟩:∃L2,{ L1 with cs:=L1.cs.set nn { A:=A,c:=c,lits:=ls,nI:=b,act:=(J.S.used:Int) } }=L2:=⟨_,rfl⟩
   have zw:L2.dh=L1.dh/\L2.id=L1.id/\L2.a=L1.a/\L2.hL=L1.hL:=by rw[<-bO];exact⟨rfl,rfl,rfl,rfl⟩
   have n8:=ae zw;rw[bO]at Az;have dR:aj (L.ext L2 w):=⟨zw.2.2.1.trans HE.o.1,zw.2.1.trans HE.o.2.1,fun k hk e=>HE.o.2.2 k hk (by rw[<-zw.1];exact e)⟩
   have b9:aj (∀k,k∈ao A->L2.dh k=(L2.id,8,nn)):=fun k hk=>by rw[zw.1,zw.2.1];exact cb.o k hk
   have b7:aj (({ J with S:=J.S.iV nn }:Sv.Gr)={ J with S:={ J.S with list:=J.S.list.set nn { J.S.rc nn with act:=J.S.used } } }):=rfl;clear bO zw c4 cb cG HE HF;go_loopg [46] ls.length (fun g2 dG wi=>∃(k:Nat)(Gk:Sv.Gr)(Xk:nD)(nk:Nat),k+g2=ls.length/\dG= .int .i64 k/\aj (Sv.meets sk (ls.drop k) Gk=Sv.eu J nn sk)/\aj (jl wi L2 Xk nk Gk)/\aj (Sv.pE S m Gk)/\aj (nk<=nm+k/\Gk.bH.length<=J.bH.length+k/\Gk.gO<=J.gO+k/\J.gO<=Gk.gO)/\
     aj (Xk.gb=w.heap.size+1+1)/\aj (∀k,k∈Xk.own->w.heap.size<=k)/\aj (Ints wi A c ls)/\aj (Fr (L.own w) w wi))
   case atStart=>exact⟨0,{ J with S:=J.S.iV nn },X1,nm,by omega,rfl,CU.o.symm,b7.o▸Az.o,ch.o,⟨by omega,by simp,by simp,by simp⟩,ZW.o,cO.o,bg.o,df.o⟩
   case round=>
    obtain⟨k,Gk,Xk,nk,hk,rfl,HM,ad,Me,I6,Aq,xW,ar,aK⟩:=hrel;have HK:=ae hk;have pR:k<=ls.length:=(by omega)
    have sQ:=a1.o;clear hk;by_cases bt:k<ls.length
    ·obtain⟨ga,hA,wX⟩:=ar.o.pos bt;subst hA;have cy:=ar.o.cell bt;obtain⟨y,hy⟩:∃y,ls[k]! =y:=⟨_,rfl⟩
     rw[hy]at cy;have Fk:=rY.o y (by rw[<-hy];exact get_mem bt);have sT:ls.drop k=y::ls.drop (k+1):=by rw[List.drop_eq_getElem_cons bt,<-hy];simp only[aa,af bt,aJ]
     have b4:=ae sT;obtain⟨cf,cc⟩:=Fk;clear sT hy wX;by_cases Nl:y=sk
     ·have hd:(y==sk)=true:=(by simp[Nl])
      have Mg:aj (Sv.meets sk (ls.drop (k+1)) Gk=Sv.eu J nn sk):=by have :=HM.o;rw[b4.o,Sv.meets,qah (fun h=>h Nl)]at this;exact this
      clear Nl;go_wp2;go_roundg (ls.length-(k+1));case measure=>have :=HK.o;omega
      case rel=>exact⟨k+1,Gk,Xk,nk,by have :=HK.o;omega,by go_num,Mg.o,ad.o,Me.o,(by have :=I6.o;exact⟨by omega,by omega,by omega,by omega⟩),Aq.o,xW.o,ar.o,aK.o⟩
     ·have hd:(y==sk)=false:=(by simp[Nl])
      have Mg:aj (Sv.meets sk (ls.drop (k+1)) (Sv.meet Gk y)=Sv.eu J nn sk):=by have :=HM.o;rw[b4.o,Sv.meets,qai Nl]at this;exact this
      have KM:=ae (JX wr L2 Xk nk Gk ad.o m Me.o.ok y (by rw[Me.o.vars];exact cf) (by rw[Me.o.vars];exact cc) (by have :=I6.o;have :=ab.o;unfold maxLen;omega) (by have :=I6.o;have :=ab.o;omega) (by have :=I6.o;have :=ab.o;omega) (by have :=I6.o;have :=ab.o;omega));rw[Aq.o]at KM;clear Nl;go_wp2_with fail;refine KM.o.mono ?_;clear KM cy;rintro e wj ⟨rfl,Xj,nj,QY,dD,b0,cB,cz,bS⟩;have cE:=ae QY;have c5:=ae (Me.o.meet ⟨cf,cc⟩);have AE:=Sv.Cf Gk y;have ds:aj (nj<=nm+(k+1)/\(Sv.meet Gk y).bH.length<=J.bH.length+(k+1)/\(Sv.meet Gk y).gO<=J.gO+((k+1:Nat):Int)/\J.gO<=(Sv.meet Gk y).gO):=by have :=I6.o;exact⟨by omega,by omega,by omega,by omega⟩
      have hz:w.heap.size<=wr.heap.size:=aK.o.size;have dn:aj (∀k,k∈Xj.own->w.heap.size<=k):=fun q hq=>by
       simp only[nD.own,ay]at hq;rcases hq with rfl |rfl |hq
       ·exact xW.o _ (by simp[nD.own,b0])
       ·exact xW.o _ (by simp[nD.own,cB])
       ·rcases cz q hq with h5 |h5
        ·exact xW.o _ (by simp[nD.own,h5])
        ·omega
      have dq:aj (Xj.gb=w.heap.size+1+1):=b0.trans Aq.o;have cI:=ae (ad.o.aaB dR.o aK.o xW.o bS);have cS:aj (Ints wj (some ⟨ga,0,none⟩) c ls):=ar.o.fr bS (fun q hq hm=>by
       have h5:=b9.o q hq;rcases ah.1 hm with h6 |h6
       ·exact ad.o.ie q h6 (by rw[h5])
       ·have h7:=ad.o.sv.t2 q h6;rw[h5]at h7;simp at h7)
      clear QY dD b0 cB cz bS AE hz;go_wp2;go_roundg (ls.length-(k+1));case measure=>have :=HK.o;omega
      case rel=>exact⟨k+1,Sv.meet Gk y,Xj,nj,by have :=HK.o;omega,by go_num,Mg.o,cE.o,c5.o,ds.o,dq.o,dn.o,cS.o,cI.o⟩
    ·obtain rfl :k=ls.length:=by omega
     have b6:aj (Gk=Sv.eu J nn sk):=by have :=HM.o;rw[List.drop_length]at this;exact this
     have CT:aj (Sv.eO f Gk (S.T.lits.take j).reverse=some (GE,xe)):=by rw[b6.o];exact tz.o
     have I7:aj (nk+1048577*f<=300000000000/\Gk.bH.length+1048577*f<=300000000001/\Gk.gO+1048577*(f:Int)<=300000000000/\(f:Int)-262144<=Gk.gO):=by have :=I6.o;have :=ab.o;have :=a1.o;exact⟨by omega,by omega,by omega,by omega⟩
     clear HM tz b6 I6 ab a1 ar b9 bg CU HK sQ;obtain⟨G5,cp⟩:∃G5,G5=Gk:=⟨_,rfl⟩
     obtain⟨X5,ct⟩:∃X5,X5=Xk:=⟨_,rfl⟩
     rw[<-cp]at CT I7 ad Me;rw[<-ct]at ad Aq xW;clear cp ct df ch Az b7 n8;go_wp2_with fail;go_loopg [8] j (fun g3 x8 wt=>g3<=j/\x8= .int .i64 ((g3:Int)-1)/\aj (Sv.eO f G5 (S.T.lits.take g3).reverse=some (GE,xe))/\aj (Fr [] wr wt));case atStart=>exact⟨aq _,rfl,CT.o,Fr.refl _ _⟩
     case round=>
      obtain⟨AK,rfl,oK,fC⟩:=hrel;obtain⟨i,hi⟩:∃i,gk=i+1:=⟨gk-1,by
       rcases gk with _ |g
       ·exact absurd oK.o (by simp[Sv.zh])
       ·omega⟩
      subst hi;have sS:i<S.T.lits.length:=(by omega)
      obtain⟨gU,jn,Sy,Sx,b2⟩:=lh.o.qX sS;obtain⟨x,hx⟩:∃x,S.T.lits[i]! =x:=⟨_,rfl⟩
      rw[hx]at gU jn Sy Sx b2;have HX:=ae hx;obtain⟨tn,Sz⟩:=zd Sy Sx lP;obtain⟨v,hv⟩:∃v,tv x=v:=⟨_,rfl⟩
      rw[hv]at tn gU jn;have HV:=ae hv;have vJ:((i+1:Nat):Int)-1=(i:Int):=(by omega)
      have UG:aj (Sv.eO f G5 (x::(S.T.lits.take i).reverse)=some (GE,xe)):=by have :=oK.o;rw[tT sS,HX.o]at this;exact this
      rw[vJ];have Fi:=ae (ad.o.keep fC.o);have c0:=Fi.o.sv.cells.1;have g1:=Fi.o.obj.cell 1;simp only[dj,cD,cK]at g1;rw[dR.o.1]at c0;rw[Aq.o]at g1;have e0:=Ext.cell c0;have e1:=Ext.cell g1;have KA:=ae (fun u:Ext wr=>ml u.v L2.tL G5.S.T (Fi.o.sv.tr.fr u.fr (by simp)) (i:Int));simp only[Me.o.T,rI sS,HX.o]at KA;have kk:∀u:Ext wr,(Instr.lookup 181 (.map (some X5.bm)) (.int .i64 v) false).run Tryz.prog u.v= .ok (.bool (decide (v∈G5.seen))) u.v:=fun u=>(Fi.o.sn.keep u.fr).look ⟨by omega,by omega⟩;clear oK hx hv vJ;by_cases yj:v∈G5.seen
      ·have up:decide (v∈G5.seen)=true:=qak yj;rw[up]at kk;have aB:=ae yj;clear yj up;go_wp2;refine ap ?_;repeat (go_big_quiet_step (exact bp (KA.o _)))
       refine fq ?_;intro w7 kp;clear e0 e1 c0 g1 kk;have Mv:=ae (Fi.o.keep kp.o);have mP:aj (Fr (L.own w) w w7):=aK.o.ak ((fC.o.ak kp.o).mono (fun k hk=>by cases hk));clear fC Fi kp KA;have c0:=Mv.o.sv.cells.1;rw[dR.o.1]at c0;have KA:=ae (ml w7 L2.tL G5.S.T Mv.o.sv.tr (i:Int));rw[Me.o.T,rI sS,HX.o]at KA;have KR:=ae (lI w7 L2.tL G5.S.T Mv.o.sv.tr v);obtain⟨rv,np⟩:∃rv,G5.S.T.fV v=rv:=⟨_,rfl⟩
       rw[np]at KR;have bb:=ae np;have ly:0<=rv/\rv<=S.list.length:=by have :=Me.o.ok.rs v;rw[np,Me.o.len]at this;exact this
       obtain⟨c8,c7⟩:=ly;have kE:IntKind.i64.wrap (rv-1)=rv-1:=IntWalk.i64_in _ (by omega);have g2:=Mv.o.obj.cell 2;have fz:=Mv.o.obj.frozen 2;simp only[dj,cD,cK]at g2;rw[Aq.o]at g2 fz;obtain⟨op,QP⟩:∃op,G5.gO=op:=⟨_,rfl⟩
       rw[QP]at g2;have QQ: -262145<=op/\op<=300000000000:=by have :=I7.o;omega
       obtain⟨dm,di⟩:=QQ;have ow:IntKind.i64.wrap (op-1)=op-1:=IntWalk.i64_in _ (by omega);have Mc:=ae QP;have I8:=Mv.o.aaE (op-1);rw[Aq.o]at I8;have I8:=ae I8;have pV:aj (Fr (L.own w) w (w7.setCell ⟨w.heap.size+1+1,2,none⟩ (.int .i64 (op-1)))):=mP.o.setCell (.inr (by simp only;omega)) _;clear np QP;go_wp2_with fail;refine KA.o.mono ?_;clear KA;rintro e w8 ⟨rfl,rfl⟩;go_wp2_with fail;refine KR.o.mono ?_;clear KR;rintro e w8 ⟨rfl,rfl⟩;by_cases hz:op-1=0
       ·have hd:((op-1)==(0:Int))=true:=(by simp[hz])
        have Mq:aj (({ G5 with gO:=op-1 }:Sv.Gr)=GE/\x=xe):=by have :=UG.o;rw[Sv.zj (by rw[HV.o];exact aB.o) (by rw[Mc.o];exact hz),Mc.o]at this;show _/\_;simpa using this
        have YF:=Me.o.l0;obtain⟨ga,rB,Xq⟩:=Mv.o.ln.pos YF;have g3:=I8.o.obj.cell 3;simp only[dj,cD,cK]at g3;rw[Aq.o,rB]at g3;have ca:=I8.o.ln;rw[rB]at ca;have bB:=ca.cell YF;have bG:=ca.frozen 0;have b1:0<G5.bH.length:=YF;have xZ:=ae (I8.o.fg rB (-x));have th:aj (Fr (L.own w) w ((w7.setCell ⟨w.heap.size+1+1,2,none⟩ (.int .i64 (op-1))).setCell ⟨ga,0,none⟩ (.int .i64 (-x)))):=pV.o.setCell (.inr (xW.o ga (by simp[nD.own,rB,ao]))) _;have tA:=ae rB;have bo:aj (∀y∈G5.bH.set 0 (-x),-(S.vars:Int)<=y/\y<=S.vars):=fun y hy=>by
         rcases List.mem_or_eq_of_mem_set hy with h5 |h5
         ·exact Me.o.lr y h5
         ·rw[h5];omega
        obtain⟨lg,Ky⟩:∃lg,G5.bH.length=lg:=⟨_,rfl⟩
        have Fb:=ae Ky;rw[Ky]at g3 b1;clear hz rB Xq ca YF Ky c0;go_wp2_with fail;obtain⟨w9,xG⟩:∃w9,(w7.setCell ⟨w.heap.size+1+1,2,none⟩ (.int .i64 (op-1))).setCell ⟨ga,0,none⟩ (.int .i64 (-x))=w9:=⟨_,rfl⟩
        rw[xG]at xZ th⊢;have g3:=xZ.o.obj.cell 3;simp only[dj,cD,cK]at g3;rw[Aq.o,tA.o,aw,Fb.o]at g3;have qS:=ae g3;have KS:=ae (fun W (hW:Fr [] w9 W)=>tO W L2 G5.S (xZ.o.keep hW).sv m Me.o.ok X5.A X5.c (G5.bH.set 0 (-x)) (xZ.o.keep hW).ln xZ.o.f3 (by rw[Me.o.vars];exact bo.o) (by rw[aw];have :=I7.o;omega));rw[tA.o,dR.o.1,aw,Fb.o]at KS;have UK:aj (w.heap.size+1+1∉ao (some (⟨ga,0,none⟩:Addr))):=by show ¬_;intro hk;have :=(xZ.o.d3 _ (by rw[tA.o];exact hk)).1;exact this Aq.o.symm
        clear xG bB bG g2 fz kE ow I8 pV;clear g3;refine qan ?_;refine bw (fun w':World=>Fr [] w9 w') 9 (by kernel_rfl) ((Fr.refl [] w9).drew) (fun dy=> ?_);refine oI 8 [(0,[]),(1,[]),(2,[]),(4,[]),(5,[]),(6,[]),(7,[]),(8,[8,9])] dy (fun w bT=>bT.aF qS.o) ?_;intro dy;have aM:=dy.resolve_left (by decide);refine aY (rs:=[3,9]) (by kernel_rfl) (by simp) ?_;refine cM.cons (o:= ?aeT) ?Pn ?Em ?_;case Pn=>rfl
        case Em=>
         intro K hK;first | (have s3:=aM.aF qS.o;go_simp) |go_simp
         refine hK.out _ _ (.inr ?_) (fun TD=> ?_)
         ·exact aM
         clear hK K;try simp only[Act.put,q5,q6,q7]
         refine R2 9 TD fun K hK aM=> ?_
         (go_simp;refine(KS.o _ aM).mono ?_;rintro e w5 ⟨rfl,ym,fT⟩;have bI:=fT.bF UK.o (aM.aF qS.o);have Ml:=ae ym;have Mw:=ae ((xZ.o.keep aM).sv.fr fT (fun k hk _=>xZ.o.f3 k (by rw[tA.o];exact hk)));have BN:aj (Fr (L.own w) w w5):=(th.o.ak (aM.mono (fun k hk=>by cases hk))).trans fT (fun k hk=> .inr (xW.o k (by rw[<-tA.o]at hk;simp[nD.own,hk])));have Jp:aj ((Sv.second G5.S.T lg 1 (G5.bH.set 0 (-x)) 0).1.length=lg):=(by rw[ij,aw];exact Fb.o);clear ym fT;dsimp only)
         refine hK.out _ _ (.inl rfl) (fun kG=> ?_);clear hK K;try simp only[Act.put,q5,q6,q7]
         refine R1 (i:=10) (o:= ?aeS) (by kernel_rfl) (by rfl) ?_;intro K hK;go_simp;refine hK.out _ _ (.inl rfl) (fun nO=> ?_);clear hK K;try simp only[Act.put,q5,q6,q7]
         refine R1 (i:=11) (o:= ?aeR) (by kernel_rfl) (by rfl) ?_;intro K hK;go_simp;refine hK.out _ _ (.inl rfl) (fun jO=> ?_);clear hK K;try simp only[Act.put,q5,q6,q7]
         refine fO ?_;have FF:aj (LdP S1 l db L w (.returned (.tuple #[.slice (some ⟨ga,0,none⟩) lg X5.c, .int .i64 (Sv.second G5.S.T lg 1 (G5.bH.set 0 (-x)) 0).2])) w5):=by
          obtain⟨h5,h6⟩:=Mq.o;have b3:w.heap.size<=w9.heap.size:=th.o.size;have e1:(GE.bH.set 0 (-xe)).length=lg:=by rw[<-h5,aw];exact Fb.o
          have e2:Sv.second GE.S.T (GE.bH.set 0 (-xe)).length 1 (GE.bH.set 0 (-xe)) 0=Sv.second G5.S.T lg 1 (G5.bH.set 0 (-x)) 0:=(by rw[e1,<-h5,h6])
          have e3:l.length=lg:=by rw[<-HL.o,e2];exact Jp.o
          refine⟨some ⟨ga,0,none⟩,X5.c,?_,L2,?_,dR.o,?_,fun k hk=> ?_,?_⟩
          ·rw[e3,<-YE.o,e2]
          ·rw[<-Qj.o,<-h5];exact Mw.o
          ·rw[<-HL.o,e2];exact Ml.o
          ·exact⟨xW.o k (by rw[<-tA.o]at hk;simp[nD.own,hk]),xZ.o.f3 k (by rw[tA.o];exact hk)⟩
          ·exact BN.o
         go_wp2;go_ret2;exact FF.o
        refine cM.cons (o:= ?aeQ) ?Pk ?WO cM.nil;case Pk=>rfl
        intro K hK
        (go_simp;refine(KS.o _ aM).mono ?_;rintro e w5 ⟨rfl,ym,fT⟩;have bI:=fT.bF UK.o (aM.aF qS.o);have Ml:=ae ym;have Mw:=ae ((xZ.o.keep aM).sv.fr fT (fun k hk _=>xZ.o.f3 k (by rw[tA.o];exact hk)));have BN:aj (Fr (L.own w) w w5):=(th.o.ak (aM.mono (fun k hk=>by cases hk))).trans fT (fun k hk=> .inr (xW.o k (by rw[<-tA.o]at hk;simp[nD.own,hk])));have Jp:aj ((Sv.second G5.S.T lg 1 (G5.bH.set 0 (-x)) 0).1.length=lg):=(by rw[ij,aw];exact Fb.o);clear ym fT;dsimp only)
        refine hK.out _ _ (.inl rfl) (fun TD=> ?_);clear hK K;try simp only[Act.put,q5,q6,q7]
        refine R1 (i:=3) (o:= ?aeP) (by kernel_rfl) (by rfl) ?_;intro K hK;first | (have s3:=aM.aF qS.o;go_simp) |go_simp
        refine hK.out _ _ (.inl rfl) (fun kG=> ?_);clear hK K;try simp only[Act.put,q5,q6,q7]
        refine R1 (i:=10) (o:= ?aeO) (by kernel_rfl) (by rfl) ?_;intro K hK;go_simp;refine hK.out _ _ (.inl rfl) (fun nO=> ?_);clear hK K;try simp only[Act.put,q5,q6,q7]
        refine R1 (i:=11) (o:= ?aeN) (by kernel_rfl) (by rfl) ?_;intro K hK;go_simp;refine hK.out _ _ (.inl rfl) (fun jO=> ?_);clear hK K;try simp only[Act.put,q5,q6,q7]
        refine fO ?_;have FF:aj (LdP S1 l db L w (.returned (.tuple #[.slice (some ⟨ga,0,none⟩) lg X5.c, .int .i64 (Sv.second G5.S.T lg 1 (G5.bH.set 0 (-x)) 0).2])) w5):=by
         obtain⟨h5,h6⟩:=Mq.o;have b3:w.heap.size<=w9.heap.size:=th.o.size;have e1:(GE.bH.set 0 (-xe)).length=lg:=by rw[<-h5,aw];exact Fb.o
         have e2:Sv.second GE.S.T (GE.bH.set 0 (-xe)).length 1 (GE.bH.set 0 (-xe)) 0=Sv.second G5.S.T lg 1 (G5.bH.set 0 (-x)) 0:=(by rw[e1,<-h5,h6])
         have e3:l.length=lg:=by rw[<-HL.o,e2];exact Jp.o
         refine⟨some ⟨ga,0,none⟩,X5.c,?_,L2,?_,dR.o,?_,fun k hk=> ?_,?_⟩
         ·rw[e3,<-YE.o,e2]
         ·rw[<-Qj.o,<-h5];exact Mw.o
         ·rw[<-HL.o,e2];exact Ml.o
         ·exact⟨xW.o k (by rw[<-tA.o]at hk;simp[nD.own,hk]),xZ.o.f3 k (by rw[tA.o];exact hk)⟩
         ·exact BN.o
        go_wp2;go_ret2;exact FF.o
       ·have hd:((op-1)==(0:Int))=false:=(by simp[hz])
        have aT:aj (Sv.fX f { G5 with gO:=op-1 } (rv-1) x (S.T.lits.take i).reverse=some (GE,xe)):=by have :=UG.o;rw[Sv.Ci (by rw[HV.o];exact aB.o) (by rw[Mc.o];exact hz),Mc.o,HV.o,bb.o]at this;exact this
        have vE:IntKind.i64.wrap ((i:Int)-1)=(i:Int)-1:=IntWalk.i64_in _ (by omega);clear hz;go_wp2;go_roundg f;case measure=>omega
        case rel=>exact⟨_,rv-1,x,i,L2,X5,nk,rfl,rfl,rfl,by omega,by omega,by omega,Sy,Sx,aT.o,I8.o,Me.o.gO _,(by have :=I7.o;have :=Mc.o;exact⟨by omega,by simp only;omega,by simp only;omega,by simp only;omega⟩),Aq.o,xW.o,dR.o,pV.o⟩
      ·have up:decide (v∈G5.seen)=false:=qaj yj;rw[up]at kk;have ba:aj (Sv.eO f G5 (S.T.lits.take i).reverse=some (GE,xe)):=by have :=UG.o;rw[Sv.wM (by rw[HV.o];exact yj)]at this;exact this
       have vE:IntKind.i64.wrap ((i:Int)-1)=(i:Int)-1:=IntWalk.i64_in _ (by omega);clear yj up;go_wp2;refine ap ?_;repeat (go_big_quiet_step (exact bp (KA.o _)))
       refine fq ?_;intro w7 kp;clear e0 e1 c0 g1 kk KA;go_wp2;go_roundg i;case measure=>omega
       case rel=>exact⟨by omega,by go_num,ba.o,fC.o.ak kp.o⟩
  ·have c6:n1= -1:=by omega
   subst c6;have CT:aj (Sv.eO f J (S.T.lits.take j).reverse=some (GE,xe)):=by have :=tz.o;unfold Sv.eu at this;rw[qah (by omega)]at this;exact this
   have I7:aj (nm+1048577*f<=300000000000/\J.bH.length+1048577*f<=300000000001/\J.gO+1048577*(f:Int)<=300000000000/\(f:Int)-262144<=J.gO):=by have :=ab.o;exact⟨by omega,by omega,by omega,by omega⟩
   clear tz ab;go_wp2_with fail;go_loopg [8] j (fun g3 x8 wt=>g3<=j/\x8= .int .i64 ((g3:Int)-1)/\aj (Sv.eO f J (S.T.lits.take g3).reverse=some (GE,xe))/\aj (Fr [] wr wt));case atStart=>exact⟨aq _,rfl,CT.o,Fr.refl _ _⟩
   case round=>
    obtain⟨AK,rfl,oK,fC⟩:=hrel;obtain⟨i,hi⟩:∃i,gk=i+1:=⟨gk-1,by
     rcases gk with _ |g
     ·exact absurd oK.o (by simp[Sv.zh])
     ·omega⟩
    subst hi;have sS:i<S.T.lits.length:=(by omega)
    obtain⟨gU,jn,Sy,Sx,b2⟩:=lh.o.qX sS;obtain⟨x,hx⟩:∃x,S.T.lits[i]! =x:=⟨_,rfl⟩
    rw[hx]at gU jn Sy Sx b2;have HX:=ae hx;obtain⟨tn,Sz⟩:=zd Sy Sx lP;obtain⟨v,hv⟩:∃v,tv x=v:=⟨_,rfl⟩
    rw[hv]at tn gU jn;have HV:=ae hv;have vJ:((i+1:Nat):Int)-1=(i:Int):=(by omega)
    have UG:aj (Sv.eO f J (x::(S.T.lits.take i).reverse)=some (GE,xe)):=by have :=oK.o;rw[tT sS,HX.o]at this;exact this
    rw[vJ];have Fi:=ae (HB.o.keep fC.o);have c0:=Fi.o.sv.cells.1;have g1:=Fi.o.obj.cell 1;simp only[dj,cD,cK]at g1;rw[HE.o.1]at c0;rw[ZW.o]at g1;have e0:=Ext.cell c0;have e1:=Ext.cell g1;have KA:=ae (fun u:Ext wr=>ml u.v L1.tL J.S.T (Fi.o.sv.tr.fr u.fr (by simp)) (i:Int));simp only[HN.o.T,rI sS,HX.o]at KA;have kk:∀u:Ext wr,(Instr.lookup 181 (.map (some X1.bm)) (.int .i64 v) false).run Tryz.prog u.v= .ok (.bool (decide (v∈J.seen))) u.v:=fun u=>(Fi.o.sn.keep u.fr).look ⟨by omega,by omega⟩;clear oK hx hv vJ;by_cases yj:v∈J.seen
    ·have up:decide (v∈J.seen)=true:=qak yj;rw[up]at kk;have aB:=ae yj;clear yj up;go_wp2;refine ap ?_;repeat (go_big_quiet_step (exact bp (KA.o _)))
     refine fq ?_;intro w7 kp;clear e0 e1 c0 g1 kk;have Mv:=ae (Fi.o.keep kp.o);have mP:aj (Fr (L.own w) w w7):=HF.o.ak ((fC.o.ak kp.o).mono (fun k hk=>by cases hk));clear fC Fi kp KA;have c0:=Mv.o.sv.cells.1;rw[HE.o.1]at c0;have KA:=ae (ml w7 L1.tL J.S.T Mv.o.sv.tr (i:Int));rw[HN.o.T,rI sS,HX.o]at KA;have KR:=ae (lI w7 L1.tL J.S.T Mv.o.sv.tr v);obtain⟨rv,np⟩:∃rv,J.S.T.fV v=rv:=⟨_,rfl⟩
     rw[np]at KR;have bb:=ae np;have ly:0<=rv/\rv<=S.list.length:=by have :=HN.o.ok.rs v;rw[np,HN.o.len]at this;exact this
     obtain⟨c8,c7⟩:=ly;have kE:IntKind.i64.wrap (rv-1)=rv-1:=IntWalk.i64_in _ (by omega);have g2:=Mv.o.obj.cell 2;have fz:=Mv.o.obj.frozen 2;simp only[dj,cD,cK]at g2;rw[ZW.o]at g2 fz;obtain⟨op,QP⟩:∃op,J.gO=op:=⟨_,rfl⟩
     rw[QP]at g2;have QQ: -262145<=op/\op<=300000000000:=by have :=I7.o;omega
     obtain⟨dm,di⟩:=QQ;have ow:IntKind.i64.wrap (op-1)=op-1:=IntWalk.i64_in _ (by omega);have Mc:=ae QP;have I8:=Mv.o.aaE (op-1);rw[ZW.o]at I8;have I8:=ae I8;have pV:aj (Fr (L.own w) w (w7.setCell ⟨w.heap.size+1+1,2,none⟩ (.int .i64 (op-1)))):=mP.o.setCell (.inr (by simp only;omega)) _;clear np QP;go_wp2_with fail;refine KA.o.mono ?_;clear KA;rintro e w8 ⟨rfl,rfl⟩;go_wp2_with fail;refine KR.o.mono ?_;clear KR;rintro e w8 ⟨rfl,rfl⟩;by_cases hz:op-1=0
     ·have hd:((op-1)==(0:Int))=true:=(by simp[hz])
      have Mq:aj (({ J with gO:=op-1 }:Sv.Gr)=GE/\x=xe):=by have :=UG.o;rw[Sv.zj (by rw[HV.o];exact aB.o) (by rw[Mc.o];exact hz),Mc.o]at this;show _/\_;simpa using this
      have YF:=HN.o.l0;obtain⟨ga,rB,Xq⟩:=Mv.o.ln.pos YF;have g3:=I8.o.obj.cell 3;simp only[dj,cD,cK]at g3;rw[ZW.o,rB]at g3;have ca:=I8.o.ln;rw[rB]at ca;have bB:=ca.cell YF;have bG:=ca.frozen 0;have b1:0<J.bH.length:=YF;have xZ:=ae (I8.o.fg rB (-x));have th:aj (Fr (L.own w) w ((w7.setCell ⟨w.heap.size+1+1,2,none⟩ (.int .i64 (op-1))).setCell ⟨ga,0,none⟩ (.int .i64 (-x)))):=pV.o.setCell (.inr (Q3.o ga (by simp[nD.own,rB,ao]))) _;have tA:=ae rB;have bo:aj (∀y∈J.bH.set 0 (-x),-(S.vars:Int)<=y/\y<=S.vars):=fun y hy=>by
       rcases List.mem_or_eq_of_mem_set hy with h5 |h5
       ·exact HN.o.lr y h5
       ·rw[h5];omega
      obtain⟨lg,Ky⟩:∃lg,J.bH.length=lg:=⟨_,rfl⟩
      have Fb:=ae Ky;rw[Ky]at g3 b1;clear hz rB Xq ca YF Ky c0;go_wp2_with fail;obtain⟨w9,xG⟩:∃w9,(w7.setCell ⟨w.heap.size+1+1,2,none⟩ (.int .i64 (op-1))).setCell ⟨ga,0,none⟩ (.int .i64 (-x))=w9:=⟨_,rfl⟩
      rw[xG]at xZ th⊢;have g3:=xZ.o.obj.cell 3;simp only[dj,cD,cK]at g3;rw[ZW.o,tA.o,aw,Fb.o]at g3;have qS:=ae g3;have KS:=ae (fun W (hW:Fr [] w9 W)=>tO W L1 J.S (xZ.o.keep hW).sv m HN.o.ok X1.A X1.c (J.bH.set 0 (-x)) (xZ.o.keep hW).ln xZ.o.f3 (by rw[HN.o.vars];exact bo.o) (by rw[aw];have :=I7.o;omega));rw[tA.o,HE.o.1,aw,Fb.o]at KS;have UK:aj (w.heap.size+1+1∉ao (some (⟨ga,0,none⟩:Addr))):=by show ¬_;intro hk;have :=(xZ.o.d3 _ (by rw[tA.o];exact hk)).1;exact this ZW.o.symm
      clear xG bB bG g2 fz kE ow I8 pV;clear g3;refine qan ?_;refine bw (fun w':World=>Fr [] w9 w') 9 (by kernel_rfl) ((Fr.refl [] w9).drew) (fun dy=> ?_);refine oI 8 [(0,[]),(1,[]),(2,[]),(4,[]),(5,[]),(6,[]),(7,[]),(8,[8,9])] dy (fun w bT=>bT.aF qS.o) ?_;intro dy;have aM:=dy.resolve_left (by decide);refine aY (rs:=[3,9]) (by kernel_rfl) (by simp) ?_;refine cM.cons (o:= ?aeM) ?Pj ?El ?_;case Pj=>rfl
      case El=>
       intro K hK;first | (have s3:=aM.aF qS.o;go_simp) |go_simp
       refine hK.out _ _ (.inr ?_) (fun TD=> ?_)
       ·exact aM
       clear hK K;try simp only[Act.put,q5,q6,q7]
       refine R2 9 TD fun K hK aM=> ?_
       (go_simp;refine(KS.o _ aM).mono ?_;rintro e w5 ⟨rfl,ym,fT⟩;have bI:=fT.bF UK.o (aM.aF qS.o);have Ml:=ae ym;have Mw:=ae ((xZ.o.keep aM).sv.fr fT (fun k hk _=>xZ.o.f3 k (by rw[tA.o];exact hk)));have BN:aj (Fr (L.own w) w w5):=(th.o.ak (aM.mono (fun k hk=>by cases hk))).trans fT (fun k hk=> .inr (Q3.o k (by rw[<-tA.o]at hk;simp[nD.own,hk])));have Jp:aj ((Sv.second J.S.T lg 1 (J.bH.set 0 (-x)) 0).1.length=lg):=(by rw[ij,aw];exact Fb.o);clear ym fT;dsimp only)
       refine hK.out _ _ (.inl rfl) (fun kG=> ?_);clear hK K;try simp only[Act.put,q5,q6,q7]
       refine R1 (i:=10) (o:= ?aeL) (by kernel_rfl) (by rfl) ?_;intro K hK;go_simp;refine hK.out _ _ (.inl rfl) (fun nO=> ?_);clear hK K;try simp only[Act.put,q5,q6,q7]
       refine R1 (i:=11) (o:= ?aeK) (by kernel_rfl) (by rfl) ?_;intro K hK;go_simp;refine hK.out _ _ (.inl rfl) (fun jO=> ?_);clear hK K;try simp only[Act.put,q5,q6,q7]
       refine fO ?_;have FF:aj (LdP S1 l db L w (.returned (.tuple #[.slice (some ⟨ga,0,none⟩) lg X1.c, .int .i64 (Sv.second J.S.T lg 1 (J.bH.set 0 (-x)) 0).2])) w5):=by
        obtain⟨h5,h6⟩:=Mq.o;have b3:w.heap.size<=w9.heap.size:=th.o.size;have e1:(GE.bH.set 0 (-xe)).length=lg:=by rw[<-h5,aw];exact Fb.o
        have e2:Sv.second GE.S.T (GE.bH.set 0 (-xe)).length 1 (GE.bH.set 0 (-xe)) 0=Sv.second J.S.T lg 1 (J.bH.set 0 (-x)) 0:=(by rw[e1,<-h5,h6])
        have e3:l.length=lg:=by rw[<-HL.o,e2];exact Jp.o
        refine⟨some ⟨ga,0,none⟩,X1.c,?_,L1,?_,HE.o,?_,fun k hk=> ?_,?_⟩
        ·rw[e3,<-YE.o,e2]
        ·rw[<-Qj.o,<-h5];exact Mw.o
        ·rw[<-HL.o,e2];exact Ml.o
        ·exact⟨Q3.o k (by rw[<-tA.o]at hk;simp[nD.own,hk]),xZ.o.f3 k (by rw[tA.o];exact hk)⟩
        ·exact BN.o
       go_wp2;go_ret2;exact FF.o
      refine cM.cons (o:= ?aeJ) ?Pi ?WN cM.nil;case Pi=>rfl
      intro K hK
      (go_simp;refine(KS.o _ aM).mono ?_;rintro e w5 ⟨rfl,ym,fT⟩;have bI:=fT.bF UK.o (aM.aF qS.o);have Ml:=ae ym;have Mw:=ae ((xZ.o.keep aM).sv.fr fT (fun k hk _=>xZ.o.f3 k (by rw[tA.o];exact hk)));have BN:aj (Fr (L.own w) w w5):=(th.o.ak (aM.mono (fun k hk=>by cases hk))).trans fT (fun k hk=> .inr (Q3.o k (by rw[<-tA.o]at hk;simp[nD.own,hk])));have Jp:aj ((Sv.second J.S.T lg 1 (J.bH.set 0 (-x)) 0).1.length=lg):=(by rw[ij,aw];exact Fb.o);clear ym fT;dsimp only)
      refine hK.out _ _ (.inl rfl) (fun TD=> ?_);clear hK K;try simp only[Act.put,q5,q6,q7]
      refine R1 (i:=3) (o:= ?aeI) (by kernel_rfl) (by rfl) ?_;intro K hK;first | (have s3:=aM.aF qS.o;go_simp) |go_simp
      refine hK.out _ _ (.inl rfl) (fun kG=> ?_);clear hK K;try simp only[Act.put,q5,q6,q7]
      refine R1 (i:=10) (o:= ?aeH) (by kernel_rfl) (by rfl) ?_;intro K hK;go_simp;refine hK.out _ _ (.inl rfl) (fun nO=> ?_);clear hK K;try simp only[Act.put,q5,q6,q7]
      refine R1 (i:=11) (o:= ?aeG) (by kernel_rfl) (by rfl) ?_;intro K hK;go_simp;refine hK.out _ _ (.inl rfl) (fun jO=> ?_);clear hK K;try simp only[Act.put,q5,q6,q7]
      refine fO ?_;have FF:aj (LdP S1 l db L w (.returned (.tuple #[.slice (some ⟨ga,0,none⟩) lg X1.c, .int .i64 (Sv.second J.S.T lg 1 (J.bH.set 0 (-x)) 0).2])) w5):=by
       obtain⟨h5,h6⟩:=Mq.o;have b3:w.heap.size<=w9.heap.size:=th.o.size;have e1:(GE.bH.set 0 (-xe)).length=lg:=by rw[<-h5,aw];exact Fb.o
       have e2:Sv.second GE.S.T (GE.bH.set 0 (-xe)).length 1 (GE.bH.set 0 (-xe)) 0=Sv.second J.S.T lg 1 (J.bH.set 0 (-x)) 0:=(by rw[e1,<-h5,h6])
       have e3:l.length=lg:=by rw[<-HL.o,e2];exact Jp.o
       refine⟨some ⟨ga,0,none⟩,X1.c,?_,L1,?_,HE.o,?_,fun k hk=> ?_,?_⟩
       ·rw[e3,<-YE.o,e2]
       ·rw[<-Qj.o,<-h5];exact Mw.o
       ·rw[<-HL.o,e2];exact Ml.o
       ·exact⟨Q3.o k (by rw[<-tA.o]at hk;simp[nD.own,hk]),xZ.o.f3 k (by rw[tA.o];exact hk)⟩
       ·exact BN.o
      go_wp2;go_ret2;exact FF.o
     ·have hd:((op-1)==(0:Int))=false:=(by simp[hz])
      have aT:aj (Sv.fX f { J with gO:=op-1 } (rv-1) x (S.T.lits.take i).reverse=some (GE,xe)):=by have :=UG.o;rw[Sv.Ci (by rw[HV.o];exact aB.o) (by rw[Mc.o];exact hz),Mc.o,HV.o,bb.o]at this;exact this
      have vE:IntKind.i64.wrap ((i:Int)-1)=(i:Int)-1:=IntWalk.i64_in _ (by omega);clear hz;go_wp2;go_roundg f;case measure=>omega
      case rel=>exact⟨_,rv-1,x,i,L1,X1,nm,rfl,rfl,rfl,by omega,by omega,by omega,Sy,Sx,aT.o,I8.o,HN.o.gO _,(by have :=I7.o;have :=Mc.o;exact⟨by omega,by simp only;omega,by simp only;omega,by simp only;omega⟩),ZW.o,Q3.o,HE.o,pV.o⟩
    ·have up:decide (v∈J.seen)=false:=qaj yj;rw[up]at kk;have ba:aj (Sv.eO f J (S.T.lits.take i).reverse=some (GE,xe)):=by have :=UG.o;rw[Sv.wM (by rw[HV.o];exact yj)]at this;exact this
     have vE:IntKind.i64.wrap ((i:Int)-1)=(i:Int)-1:=IntWalk.i64_in _ (by omega);clear yj up;go_wp2;refine ap ?_;repeat (go_big_quiet_step (exact bp (KA.o _)))
     refine fq ?_;intro w7 kp;clear e0 e1 c0 g1 kk KA;go_wp2;go_roundg i;case measure=>omega
     case rel=>exact⟨by omega,by go_num,ba.o,fC.o.ak kp.o⟩
end Go.Proofs.YtpjbaobgnhjgoaaGreat
