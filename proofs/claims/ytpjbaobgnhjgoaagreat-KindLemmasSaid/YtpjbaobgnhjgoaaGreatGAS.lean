/- Parts of a proof. -/
import Derived.Test.YtpjbaobgnhjgoaaGreatGAR
set_option linter.unusedVariables false
set_option linter.unusedSimpArgs false
set_option maxHeartbeats 8000000
set_option maxRecDepth 100000
namespace Go.Proofs.YtpjbaobgnhjgoaaGreat
open Go.RowKit
theorem Bq.push{w wb w':World}{H:Qh}{q:Qn}{A:Option Addr}(h:Bq w wb H q)(J:Fr (ao A) wb w')(hn:∀k∈ao A,w.heap.size+2<=k):Bq w w' H q:=
 ⟨h.fr.trans J (fun k hk=> .inr (by have :=hn k hk;omega)),J.at_ h.bq (fun hk=>by have :=hn _ hk;omega),J.at_ h.bc (fun hk=>by have :=hn _ hk;omega)⟩
theorem AU(w:World)(H:Qh)(q:Qn)(h:uO w H q)(hv:Valid q.C)(a1:∀x∈q.ls,My x.l)(nV:q.ls.length<=64)(hk:q.ks=[])(aT:∀x∈q.am,My x.l)(ha:q.am.length<=64)(f:Int)(hf:0<=f/\f<=80)(hb:cu q.C f<=262144):
  Calls Tryz.prog 73 #[mv H q, .int .i64 f] w fun e w'=>∃A c hs,e= .returned (.slice A hs.length c)/\NwLs w' w.heap.size A c hs/\hs.map (·.l)=po q.C (q.am.map (·.l)++q.ls.map (·.l)) f/\Fr [] w w':=by
 obtain⟨w1,eo⟩:∃W,w.alloc (.cells (pH H q) 40)=W:=⟨_,rfl⟩
 obtain⟨w2,kE⟩:∃W,w1.alloc (.cells (fv H.H q.C) 27)=W:=⟨_,rfl⟩
 have HX:=ae (Bq.start w H q);rw[eo,kE]at HX;have nU:At w1 w.heap.size 40 (pH H q):=eo▸At.new _ _ _;have nM:w1.heap.size=w.heap.size+1:=by rw[<-eo];simp
 have nN:=(jp hv.m0 hv.m1 (f:=f) (by omega)).1;have KR:=ae (iF w2 H.H q.C (h.c.keep HX.o.fr) hv f hf);have KB:=ae (fun W=>m8 W H.H q.C hv.m0 hv.m1 f (by omega));have KG:=ae (fun W (hW:Fr [] w W)=>Dr W H.H q.C (h.c.keep hW) hv (cu q.C f) ⟨nN,hb⟩);have KF:=ae (fun W (hW:Fr [] w W)=>Ds W H.H q.C (h.c.keep hW) hv H.aA H.aC q.am (h.a.keep hW) aT ha (cu q.C f) ⟨nN,hb⟩);have KC:=ae (fun W G B hB A1 A2 c1 c2 ni jB h1 h2 tq vM hl=>EP W G B hB A1 A2 c1 c2 ni jB h1 h2 tq vM hl);have Fb:=ae (zF hv (cu q.C f));have YD:aj ((iX q.C (q.am.map (·.l)) (cu q.C f)).length<=128):=(by have h1:=zL q.C (q.am.map (·.l)) (cu q.C f);rw[aG]at h1;have :=yG hv;show _<=_;omega)
 have ad:aj (po q.C (q.am.map (·.l)++q.ls.map (·.l)) f=j6 q.C (cu q.C f)++iX q.C (q.am.map (·.l)) (cu q.C f)++(q.ls.map (·.l)).map (fun l=>l.map (bV (cu q.C f)))):=(by unfold po iX;simp only[bE,dB]:_=_)
 have aK:=ae (fun W A c l hr hx hl=>sd W (cu q.C f) ⟨nN,hb⟩ A c l hr hx hl);have xr:=ae (fun x (hx:0<=x/\x<=4097)=>mz (b:=cu q.C f) (l:=x) (by omega) hx);have bg:=ae (fun W (hW:Fr [] w W)=>h.l.keep hW);have YK:=ae a1;obtain⟨b,Bo⟩:∃b,cu q.C f=b:=⟨_,rfl⟩
 simp only[Bo]at KB;rw[Bo]at hb KG KF Fb YD ad aK;simp only[Bo]at xr;have d0:decide (262144<b)=false:=qaj (by omega);clear h aT nN Bo hb hf a1;obtain⟨⟨mx,ins,az,outs,aI,aH,au,bD⟩,am,ls,ks,bad,dep,ji⟩:=q;obtain⟨⟨iA,iC,lA,lC,oA,oC,bA,bC,vA,vC,gA,gC,nA,nC⟩,aA,aC,mA,mC,kA,kC⟩:=H;simp only[mv,pH,bY,fv]at *;subst hk;simp only[List.length_nil]at eo nU⊢;obtain⟨q0,q1,q2,q3,q4,q5,q6,q7,q8,q9,jG,jF,jL,jR⟩:=HX.o.EQ;obtain⟨c0,c1,c2,c3,c4,c5,c6,c7⟩:=HX.o.cells;have p0:=nU.cell 0;have p1:=nU.cell 1;have p2:=nU.cell 2;have p3:=nU.cell 3;have p4:=nU.cell 4;have p5:=nU.cell 5;have p6:=nU.cell 6;have p7:=nU.cell 7;simp at p0 p1 p2 p3 p4 p5 p6 p7;try simp only at c0 c1 c2 c3 c4 c5 c6 c7
 try simp only[List.length_nil]at q0 q1 q2 q3 q4 q5 q6 q7 q8 q9 jG jF jL jR
 go_enter Tryz.func73,Tryz.ntmps73;go_upto_region 2 with fail;go_wp2_with fail;clear p0 p1 p2 p3 p4 p5 p6 p7 q0 q1 q2 q3 q4 q5 q6 q7 q8 q9 jG jF jL jR nU eo kE;refine KR.o.mono ?_;rintro e w3 ⟨rfl,J⟩;have kK:=ae (HX.o.keep J);clear J KR HX c0 c1 c2 c3 c4 c5 c6 c7;obtain⟨c0,c1,c2,c3,c4,c5,c6,c7⟩:=kK.o.cells;try simp only at c0 c1 c2 c3 c4 c5 c6 c7
 go_wp2_with fail;refine(KB.o w3).mono ?_;rintro e w4 ⟨rfl,J⟩;have jr:=ae (kK.o.keep J);clear J kK c0 c1 c2 c3 c4 c5 c6 c7;obtain⟨c0,c1,c2,c3,c4,c5,c6,c7⟩:=jr.o.cells;try simp only at c0 c1 c2 c3 c4 c5 c6 c7
 go_wp2_with fail;refine(KB.o w4).mono ?_;rintro e w5 ⟨rfl,J⟩;have xX:=ae (jr.o.keep J);clear J jr c0 c1 c2 c3 c4 c5 c6 c7;obtain⟨c0,c1,c2,c3,c4,c5,c6,c7⟩:=xX.o.cells;try simp only at c0 c1 c2 c3 c4 c5 c6 c7
 go_wp2_with fail;refine(KG.o w5 xX.o.fr).mono ?_;rintro e w6 ⟨A1,k1,ni,rfl,rP,yo,J⟩;have vU:=ae (xX.o.keep J);have Vy:aj (w.heap.size+2<=w5.heap.size):=xX.o.bc.lt;have xq:=ae (rP.low Vy.o);have fH:=ae yo;clear J xX c0 c1 c2 c3 c4 c5 c6 c7 rP yo Vy;obtain⟨c0,c1,c2,c3,c4,c5,c6,c7⟩:=vU.o.cells;obtain⟨q0,q1,q2,q3,q4,q5,q6,q7,q8,q9,jG,jF,jL,jR⟩:=vU.o.EQ;try simp only at c0 c1 c2 c3 c4 c5 c6 c7
 try simp only[List.length_nil]at q0 q1 q2 q3 q4 q5 q6 q7 q8 q9 jG jF jL jR
 go_wp2_with fail;refine(KF.o w6 vU.o.fr).mono ?_;rintro e w7 ⟨A2,k2,jB,rfl,tm,jZ,J⟩;have aB:=ae (vU.o.keep J);have Q7:aj (w.heap.size+2<=w6.heap.size):=vU.o.bc.lt;have l8:=ae (tm.low Q7.o);have Qq:=ae (xq.o.keep J);have dR:=ae jZ;clear J vU c0 c1 c2 c3 c4 c5 c6 c7 q0 q1 q2 q3 q4 q5 q6 q7 q8 q9 jG jF jL jR tm jZ Q7 xq;obtain⟨wb,fS⟩:∃W,w7.alloc (.cells #[.slice A1 ni.length k1, .slice A2 jB.length k2] 28)=W:=⟨_,rfl⟩
 have ib:aj (Fr [] w7 wb):=fS▸aR _ _;have j4:At wb w7.heap.size 28 #[.slice A1 ni.length k1, .slice A2 jB.length k2]:=fS▸At.new _ _ _;have tw:=ae (aB.o.keep ib.o);have xn:=ae (KC.o wb w7.heap.size (w.heap.size+2) (show w.heap.size+2<=wb.heap.size from tw.o.bc.lt) A1 A2 k1 k2 ni jB (Qq.o.keep ib.o) (l8.o.keep ib.o) (by rw[j4.cell];rfl) (by rw[j4.cell];rfl) (by have h1:=Qq.o.io fH.o;have h2:=l8.o.io dR.o;have h3:(j6 ⟨mx,ins,az,outs,aI,aH,au,bD⟩ b).length<=8193:=Fb.o;have h4:(iX ⟨mx,ins,az,outs,aI,aH,au,bD⟩ (am.map (·.l)) b).length<=128:=YD.o;omega));clear j4;go_wp2_with fail;refine xn.o.mono ?_;rintro e w8 ⟨A3,k3,rfl,ba,J⟩;have Yl:=ae (tw.o.keep J);have rX:=ae ba;have jt:aj ((ni++jB).map (·.l)=j6 ⟨mx,ins,az,outs,aI,aH,au,bD⟩ b++iX ⟨mx,ins,az,outs,aI,aH,au,bD⟩ (am.map (·.l)) b):=(by rw[bE,fH.o,dR.o]:_=_)
 have Jp:aj ((ni++jB).length<=8321):=(by have h1:=Qq.o.io fH.o;have h2:=l8.o.io dR.o;have h3:(j6 ⟨mx,ins,az,outs,aI,aH,au,bD⟩ b).length<=8193:=Fb.o;have h4:(iX ⟨mx,ins,az,outs,aI,aH,au,bD⟩ (am.map (·.l)) b).length<=128:=YD.o;rw[an];omega:_<=_)
 obtain⟨U,hU⟩:∃U,j6 ⟨mx,ins,az,outs,aI,aH,au,bD⟩ b++iX ⟨mx,ins,az,outs,aI,aH,au,bD⟩ (am.map (·.l)) b=U:=⟨_,rfl⟩
 rw[hU]at jt;try simp only at ad
 rw[hU]at ad;clear hU;obtain⟨hs,Zy⟩:∃hs,ni++jB=hs:=⟨_,rfl⟩
 rw[Zy]at rX jt Jp;rw[Zy];clear J fS tw aB xn ba Zy;obtain⟨q0,q1,q2,q3,q4,q5,q6,q7,q8,q9,jG,jF,jL,jR⟩:=Yl.o.EQ;try simp only[List.length_nil]at q0 q1 q2 q3 q4 q5 q6 q7 q8 q9 jG jF jL jR
 go_wp2_with fail;go_loopg [11,55] ls.length (fun gk uU bo wr=>∃(k:Nat)(A':Option Addr)(c':Nat)(SI:List Ls),k+gk=ls.length/\uU= .slice A' SI.length c'/\bo= .int .i64 k/\aj (NwLs wr (w.heap.size+2) A' c' SI)/\aj (SI.map (·.l)=U++((ls.map (·.l)).take k).map (fun l=>l.map (bV b)))/\aj (SI.length<=8321+k)/\aj (Bq w wr ⟨⟨iA,iC,lA,lC,oA,oC,bA,bC,vA,vC,gA,gC,nA,nC⟩,aA,aC,mA,mC,kA,kC⟩ ⟨⟨mx,ins,az,outs,aI,aH,au,bD⟩,am,ls,[],bad,dep,ji⟩));case atStart=>exact⟨0,A3,k3,hs,by omega,rfl,rfl,rX.o,(by rw[jt.o];simp :_=_),(by have :=Jp.o;show _<=_;omega),Yl.o⟩
 case round=>
  clear Yl jt rX Jp;obtain⟨k,A',c',SI,hk,rfl,rfl,HN,HE,Jp,eh⟩:=hrel;have HK:=ae hk;have iS:k<=ls.length:=by omega
  have yk:=Jp.o;clear hk q0 q1 q2 q3 q4 q5 q6 q7 q8 q9 jG jF jL jR;by_cases bt:k<ls.length
  ·obtain⟨ab,o,B1,d1,l1,hA,he,tq,Ph⟩:=(bg.o wr eh.o.fr).one bt;subst hA;have yl:k<(ls.map (·.l)).length:=by rw[aG];exact bt
   have Qo:=ae (vy (fun l:List Int=>l.map (bV b)) yl);have Fq:(ls.map (·.l))[k]! =l1:=by have :=he.o;rw[aa,af bt]at this;simp only[aJ]at this;rw[aa,aZ,af bt];simp[this]
   rw[Fq]at Qo;have Ps:My l1:=by have :=YK.o (ls[k]!) (bk bt);rw[he.o]at this;exact this
   have zx:l1.length<=1024:=Ps.1;have bb:=ae Ps;have aM:=ae (aK.o wr B1 d1 l1 Ph.1 Ps.2 (by have :=Ps.1;omega));clear yl Fq Ph Ps;go_wp2_with fail;refine aM.o.mono ?_;rintro e wc ⟨B2,d2,rfl,oQ,tm,cE⟩;have mi:=ae oQ;have bj:=ae tm;have df:=ae cE;clear oQ tm cE aM;obtain⟨wd,ar⟩:∃W,wc.alloc (.cells #[.slice B2 l1.length d2] 22)=W:=⟨_,rfl⟩
   have Jt:aj (Fr [] wc wd):=ar▸aR _ _;have nv:=ae (mi.o.fr Jt.o (fun _ _ hm=>by cases hm));have nX:wd.cell? ⟨wc.heap.size,0,none⟩=some (.slice B2 l1.length d2):=by have :=(At.new wc 22 #[.slice B2 l1.length d2]).cell 0;rw[ar]at this;simpa using this
   have uS:=ae nX;have qQ:aj (w.heap.size+1<wr.heap.size):=(eh.o.bc.lt:w.heap.size+1<wr.heap.size)
   have tw:=ae ((eh.o.keep df.o).keep Jt.o);have rK:aj ((l1.map (bV b)).length=l1.length):=(aG .. :_=_)
   have IV:aj (Ra (l1.map (bV b))):=(fR (p:=eJ)).2 fun x hx=>by obtain⟨y,hy,rfl⟩:=aN.1 hx;have :=xr.o y (bb.o.2 y hy);exact⟨by omega,by omega⟩
   clear nX;go_wp2_with (at_builtin;(refine gv _ rfl _ _ rfl A' c' SI (HN.o.keep df.o) Jt.o (by have h1:=qQ.o;have h2:=df.o.size;have h3:=Jt.o.size;omega) SI.length rfl rfl ⟨wc.heap.size,0,none⟩ 1 1 [⟨B2,d2,l1.map (bV b)⟩] rfl rfl (fun j hj=>by(have :j=0:=by simpa using hj);subst this;rw[dQ];show _=some (Value.slice B2 (l1.map (bV b)).length d2);rw[rK.o];exact uS.o) (fun h hh=>by(have :=ag.1 hh);subst this;exact⟨nv.o,IV.o,by show(l1.map (bV b)).length<=_;rw[rK.o];omega,fun k hk=>by(have h1:=bj.o k hk);have h2:=qQ.o;omega⟩) (by simp;omega) ?_;intro A4 c4 w4 uX fG;have uP:=ae uX;have jr:=ae (tw.o.push fG (fun k hk=>HN.o.new k hk));clear uX fG))
   clear ar;go_roundg (gk-1);case measure=>have :=HK.o;omega
   case rel=>exact⟨k+1,A4,c4,SI++[(⟨B2,d2,l1.map (bV b)⟩:Ls)],by have :=HK.o;omega,by simp,by go_num,uP.o,(by rw[bE,HE.o,Qo.o,dB];rfl :_=_),(by have :=Jp.o;rw[an,aV];omega:_<=_),jr.o⟩
  ·obtain rfl :k=ls.length:=by omega
   have dR:aj (SI.map (·.l)=U++(ls.map (·.l)).map (fun l=>l.map (bV b))):=by have :=HE.o;rw[dv (by rw[aG];exact aq _)]at this;exact this
   obtain⟨q0,q1,q2,q3,q4,q5,q6,q7,q8,q9,jG,jF,jL,jR⟩:=eh.o.EQ;try simp only[List.length_nil]at q0 q1 q2 q3 q4 q5 q6 q7 q8 q9 jG jF jL jR
   clear HK HE;go_wp2_with fail;go_loopg [11,69] 0 (fun gk uU bB wy=>uU= .slice A' SI.length c'/\bB= .int .i64 0/\aj (wy=wr));case atStart=>exact⟨rfl,rfl,rfl⟩
   case round=>
    obtain⟨rfl,rfl,HW⟩:=hrel;have hw:=HW.o.symm;subst hw;clear HW;go_wp2;go_ret;exact⟨A',c',SI,rfl,HN.o.low (by omega),by rw[dR.o,ad.o],eh.o.fr⟩
theorem Stay.cell{X:List Nat}{w w':World}(h:Stay X w w'){p:Addr}{v:Value}(hc:w.cell? p=some v)(hx:p.block∈X):w'.cell? p=some v:=by obtain⟨T,h1,J⟩:=h;rw[World.cell?_of_block (h1.block p.block (bR hc) (J _ hx))];exact hc
namespace Sv
def cF(S:Sv):List (List Int)->Sv
 |[]=>S
 |c::r=>cF (S.fD c).1 r
theorem td(S:Sv):∀l r:List (List Int),S.cF (l++r)=(S.cF l).cF r
 |[],r=>rfl
 |c::l,r=>td (S.fD c).1 l r
structure Fit(vars V:Nat)(S:Sv):Prop where
 ok:S.Ok 0
 vars:S.vars=vars
 list:S.list.length<=V
 used:S.used<=2199023255552
theorem Fit.add{vars V:Nat}{S:Sv}(h:Fit vars V S)(hV:V<8388608){c:List Int}(hr:Ra c):Fit vars (V+1) (S.fD c).1:=by
 have hs:S.list.length<2199023255552:=by have :=h.list;omega
 obtain⟨m1,m2,m3,m4,m5⟩:=CQ S c;obtain⟨J,k2⟩:=h.ok.fD hr hs;exact⟨J,k2.trans h.vars,by have :=h.list;omega,by rw[m1];exact h.used⟩
end Sv
theorem Sv.Fit.cF{vars:Nat}:∀{ls:List (List Int)}{S:Sv}{V:Nat},S.Fit vars V->V+ls.length<=8388608->(∀c∈ls,Ra c)->(S.cF ls).Fit vars (V+ls.length)
 |[],S,V,h,_,_=>h
 |c::r,S,V,h,hl,hr=>by simp only[b8]at hl⊢;have :=Sv.Fit.cF (h.add (by omega) (hr c bM)) (by omega:V+1+r.length<=_) (fun d hd=>hr d (bU _ hd));rw[show V+(r.length+1)=V+1+r.length by omega];exact this
theorem Sv.Fit.new{b:Int}(h0:0<=b)(h1:b<=262143):(Sv.new b).Fit b.toNat 0:=by obtain⟨J,k2⟩:=Sv.Ok.new b;obtain⟨_,_,_,_,i5,i6,_⟩:=Sv.Inv.new b;exact⟨J,by rw[k2];omega,by rw[i5];exact aq _,by rw[i6];exact aU _⟩
theorem DY{X:List Nat}{w0:World}(w:World)(L:aO)(S:Sv)(h:OwnX X w0 w L S){vars V:Nat}(J:S.Fit vars V)(A:Option Addr)(c:Nat)(hs:List Ls)(hr:N4 w A hs)(aT:∀k∈ao A,k∈X)(a1:∀x∈hs,∀k∈ao x.A,k∈X)
  (Jh:∀x∈hs,lX vars x.l=0) (hl:V+hs.length<=8388608):
  Calls Tryz.prog 70 #[.pointer (some ⟨L.a,0,none⟩), .slice A hs.length c] w (Yd X (.int .i64 0) (S.cF (hs.map (·.l))) L.a w0 w):=by
 obtain⟨eH,eB⟩:∃eH,S.cF (hs.map (·.l))=eH:=⟨_,rfl⟩
 rw[eB];obtain⟨a,ha⟩:∃a,L.a=a:=⟨_,rfl⟩
 rw[ha];have ad:=ae ha;have gd:=ae eB;have HH:=ae hr;have aB:=ae h;have aK:=ae J;have Yk:=ae aT;have ar:=ae a1;have I3:=ae Jh;have ZU:=ae (fun k hk=>(h.fx k hk).1);clear h hr eB ha J aT a1 Jh;go_enter Tryz.func70,Tryz.ntmps70;go_wp2_with fail;go_loopg [10] hs.length (fun g tj wr=>∃(k:Nat)(L:aO)(S:Sv),k+g=hs.length/\tj= .int .i64 k/\aj (L.a=a)/\aj (OwnX X w0 wr L S)/\aj (Stay X w wr)/\aj (S.Fit vars (V+k))/\aj (S.cF ((hs.map (·.l)).drop k)=eH));case atStart=>exact⟨0,L,S,by omega,rfl,ad,aB,Stay.of (Fr.refl _ w),aK,gd⟩
 case round=>
  clear ad aB aK gd;obtain⟨k,L,S,hk,rfl,Fc,ab,CS,ba,gd⟩:=hrel;have HK:=ae hk;have iS:k<=hs.length:=by omega
  clear hk;by_cases bt:k<hs.length
  ·obtain⟨b,o,B,d,l,hA,hx,cx,ok⟩:=HH.o.one bt;have GO:(⟨B,d,l⟩:Ls)∈hs:=by rw[<-hx.o];exact bk bt
   have e2:=CS.o.cell cx (Yk.o b (by rw[hA];simp[ao]));subst hA;have J:=ba.o;have aM:=J.vars;have Cv:lX S.vars l=0:=by rw[aM];exact I3.o _ GO
   have yk:S.list.length<2199023255552:=by have :=J.list;omega
   have KA:=ab.o.add J.ok B d l (ab.o.NG (CS.o.rd ok.1 (ar.o _ GO)) (ar.o _ GO)) ok.2.1 (fun h=>(ok.2.2.2 h).2) yk (by have :=J.used;omega);rw[P9,Fc.o,Cv]at KA;have sT:=zf bt;rw[hx.o]at sT;have gz:=gd.o;rw[sT,Sv.cF]at gz;have nY:=ae gz;have Fd:=ae (J.add (by omega) ok.2.1);have KA:=ae KA;clear J aM Cv yk sT gz ok cx GO hx;go_wp2_with fail;refine KA.o.mono ?_;clear KA;rintro e w4 ⟨rfl,L4,Nz,h4,s4⟩;have YG:=ae Nz;have H4:=ae h4;have N7:=ae (CS.o.ak s4 ZU.o);clear h4 Nz s4 e2;go_wp2;go_roundg (gk-1);case measure=>have :=HK.o;omega
   case rel=>exact⟨k+1,L4,_,by have :=HK.o;omega,by go_num,YG,H4,N7,Fd,nY⟩
  ·obtain rfl :k=hs.length:=by omega
   have AP:aj (S=eH):=by have :=gd.o;rw[List.drop_of_length_le (by simp)]at this;exact this
   clear HK gd;go_wp2;go_ret;exact⟨rfl,L,Fc.o,AP.o▸ab.o,CS.o⟩
namespace Sv
theorem Rf(S:Sv)(n c:Nat):(S.grow n).gG c=S.gG c:=by
 show(S.watch++List.replicate (2*n) ([]:List Nat))[c]! =S.watch[c]!;simp only[aa];by_cases e:c<S.watch.length
 ·rw[cV e]
 ·rw[bX (by omega),List.getElem?_replicate,iZ (l:=S.watch) (by omega)];split<;>rfl
theorem Inv.grow{S:Sv}(h:S.Inv)(n:Nat)(hb:S.vars+n<=262143):(S.grow n).Inv:=by
 obtain⟨hR,hl⟩:=E7 h.ok n hb;have hw:=Rf S n;refine⟨h.ok.grow n hb,h.lT,fun A e B h1 h2=>h.wu A e B (hR▸h1) h2,fun A e B h1 h2=>h.dec A e B (hR▸h1) h2,fun e he=> ?_,⟨fun c=>by rw[hw];exact h.wi.nd c,fun c k hk J=> ?_,fun k J=> ?_⟩,fun k J e he=> ?_⟩
 ·rw[hR]at he;rw[hl];exact h.hd e he
 ·rw[hw]at hk;exact h.wi.wd c k hk J
 ·rw[hw,hw];exact h.wi.wc k J
 ·rw[hR]at he⊢;exact h.wt k J e he
theorem cX.grow{S:Sv}{F:(Nat->Bool)->Prop}(h:S.cX F)(ok:S.Ok 0)(n:Nat)(hb:S.vars+n<=262143):(S.grow n).cX F:=by obtain⟨hR,hl⟩:=E7 ok n hb;refine⟨fun a J=>⟨(h.sound a J).1,fun e he=>(h.sound a J).2 e (hR▸he)⟩,h.bad,fun kZ a J=>h.full kZ a ⟨J.1,fun e he=>J.2 e (by rw[hR];exact he)⟩⟩
theorem gV.cF{vars U:Nat}:∀{ls:List (List Int)}{S:Sv}{F:(Nat->Bool)->Prop}{V:Nat},gV F vars U V S->V+ls.length<=8388608->(∀c∈ls,Ra c/\lX vars c=0)->gV (fun a=>F a/\∀c∈ls,eX a c) vars U (V+ls.length) (S.cF ls)
 |[],S,F,V,h,_,_=>h.iff fun a=>⟨fun ha=>⟨ha,fun c hc=>by cases hc⟩,fun ha=>ha.1⟩
 |c::r,S,F,V,h,hl,hc=>by
  obtain⟨h1,h2⟩:=hc c bM;simp only[b8]at hl⊢;have zx:=h.list;have hk:=gV.cF (h.fD h1 (by omega) (by rw[h.vars];exact h2)) (by omega:V+1+r.length<=_) (fun d hd=>hc d (bU _ hd));rw[show V+(r.length+1)=V+1+r.length by omega];refine hk.iff fun a=>⟨fun⟨⟨h3,J⟩,h5⟩=>⟨h3,fun d hd=> ?_⟩,fun⟨h3,J⟩=>⟨⟨h3,J c bM⟩,fun d hd=>J d (bU _ hd)⟩⟩
  rcases ay.1 hd with rfl |hd
  ·exact J
  ·exact h5 d hd
theorem gV.grow{S:Sv}{F:(Nat->Bool)->Prop}{vars U V:Nat}(h:gV F vars U V S)(n:Nat)(hb:vars+n<=262143):gV F (vars+n) U V (S.a7.grow n):=by
 have J:S.a7.vars+n<=262143:=by show S.vars+n<=_;rw[h.vars];exact hb
 obtain⟨hR,hl⟩:=E7 h.inv.a7.ok n J;have ab:S.a7.Hc:=⟨h.hc.all,h.hc.pos⟩
 exact⟨h.inv.a7.grow n J,hl.trans h.db,ab.grow h.inv.a7.ok n J,h.kn.a7.grow h.inv.a7.ok n J,h.mb,by show S.vars+n=_;rw[h.vars],h.used,h.list,h.bump,h.lim⟩
theorem ML{us:List Int}{F:(Nat->Bool)->Prop}{vars U V:Nat}{S:Sv}{budget:Int}(h:gV F vars U V S)(nq:budget<=1099511627776)(hU:U<=1000000000000)(hV:V<=8388608)(hu:∀y∈us,y≠0/\ -(vars:Int)<=y/\y<=vars)(Be:us.length<=1099511627776):
  S.fE true budget us (2*S.vars+3) (budget.toNat+2) (Va us F vars (U+3+budget.toNat) (V+2+budget.toNat)):=by
 have lP:=h.inv.ok.vl;have ab:=h.vars;unfold fE;have ho:us.any (jW S.vars)=false:=by
  cases h4:us.any (jW S.vars)with
  |false=>rfl
  |true=>
   obtain⟨x,hx,h5⟩:=cP.1 h4;obtain⟨y0,y1,y2⟩:=hu x hx;rw[<-ab]at y1 y2;rw[JR lP y0 y1 y2]at h5;cases h5
 rw[ho,Bool.or_false];by_cases h1:budget<1
 ·rw[qak h1,qai rfl];exact⟨⟨h.inv.a7,h.db,⟨h.hc.all,h.hc.pos⟩,h.kn.congr rfl rfl rfl,by have :=h.mb;show -((V+2+budget.toNat:Nat):Int)<=S.many/\S.many<=((V+2+budget.toNat:Nat):Int);omega,h.vars,by have :=h.used;show S.used<=_;omega,by have :=h.list;show S.list.length<=_;omega,h.bump,by have :=h.lim;show S.cv<=_;omega⟩, .inl ⟨rfl,rfl⟩⟩
 rw[qaj h1,qah (by decide)];by_cases J:S.bad=true
 ·rw[qai J];exact⟨⟨h.inv.a7.cW,h.db,⟨h.hc.all,h.hc.pos⟩,h.kn.a7.cW,by have :=h.mb;show -((V+2+budget.toNat:Nat):Int)<=S.many/\S.many<=((V+2+budget.toNat:Nat):Int);omega,h.vars,by have :=h.used;show S.used+1<=_;omega,by have :=h.list;show S.list.length<=_;omega,h.bump,by have :=h.lim;show S.cv<=_;omega⟩, .inr (.inr ⟨rfl,rfl,fun a ha=>absurd ha (h.kn.bad J a),(fun u hu=>by cases hu),List.Pairwise.nil⟩)⟩
 ·rw[qah J];have J:S.bad=false:=by simpa using J
  have hg:=h.go J us (budget.toNat+2);have hs:=RG (budget:=budget) (D:=2*S.vars+3) (by omega) hu (by omega:U+1+(budget.toNat+2)<=2199023255000) (by omega:V+(budget.toNat+2)<=1200000000000) Be (budget.toNat+2) 64 0 S.a7.cW hg (by omega) (by omega) (by omega) (by omega);refine tQ _ _ (fun S' r k2=> ?_) _ _ _ _ hs;have :=k2.done;rw[show U+1+(budget.toNat+2)=U+3+budget.toNat by omega,show V+(budget.toNat+2)=V+2+budget.toNat by omega]at this;exact this
def xt(S:Sv)(v:Nat):Bool:=S.FL (v:Int)
structure Told(us:List Int)(F:(Nat->Bool)->Prop)(S:Sv)(r:Int):Prop where
 model:S.has=true->S.model.length=S.vars+1
 used:S.used<4611686018427387904
 rr:r=0\/(r=1/\F (xt S)/\∀u∈us,jD (xt S) u)\/(r=2/\∀a,F a->¬∀u∈us,jD a u)
theorem Va.told{us:List Int}{F:(Nat->Bool)->Prop}{vars U V:Nat}{S:Sv}{r:Int}(h:Va us F vars U V S r)(hU:U<4611686018427387904):Told us F S r:=by
 obtain⟨hk,ha⟩:=h;have hu:=hk.used;refine⟨fun J=> ?_,by omega,?_⟩
 ·rcases ha with⟨-,h1⟩ |⟨-,-,-,h1,-⟩ |⟨-,h1,-⟩
  ·rw[J]at h1;cases h1
  ·rw[h1,hk.vars]
  ·rw[J]at h1;cases h1
 ·rcases ha with⟨h1,-⟩ |⟨h1,J,-,hm,h2⟩ |⟨h1,-,h2,h3,-⟩
  ·exact .inl h1
  ·right;left
   refine⟨h1,h2 (xt S) (fun v h3 h4=> ?_)⟩;unfold xt FL;rw[J,qak (by omega),qak (by rw[hk.vars];omega),ff,ff,ff,Int.toNat_natCast]
  ·right;right
   exact⟨h1,fun a hF gZ=>h2 a hF (fun u hu=>gZ u (h3 u hu))⟩
end Sv
theorem vO(C:Pc)(am:List (List Int))(fst:Bool)(n:Nat):jQ C am fst (n+1)=jQ C am fst n++P3 C am n:=by unfold jQ;rw[ju,List.flatMap_append,dB];simp
theorem mK{C:Pc}(J:Valid C){am:List (List Int)}(ha:am.length<=64)(fst:Bool):∀n,(jQ C am fst n).length<=64+8449*n
 |0=>by
  have h1:=zI C C.az.length;have h2:=J.l;unfold jQ;cases fst<;>simp;omega
 |n+1=>by
  have h1:=mK J ha fst n;have h2:=zJ J ha (f:=(n:Int));have h3:=J.l;rw[vO,an];unfold P3;rw[an];split
  ·simp;omega
  ·rw[ud];omega
theorem EI{C:Pc}(J:Valid C){am:List (List Int)}(ha:sa C.mx am)(fst:Bool){N:Nat}:∀n,n<=N->1<=N->∀l∈jQ C am fst n,BJ (cu C N) l
 |0,hn,h1,l,hl=>by
  unfold jQ at hl;simp only[List.range_zero,List.flatMap_nil,cq]at hl;split at hl
  ·exact(TN J l hl).mono (gI J.m0 (by omega))
  ·cases hl
 |n+1,hn,h1,l,hl=>by
  rw[vO]at hl;rcases ah.1 hl with hl |hl
  ·exact EI J ha fst n (by omega) h1 l hl
  ·unfold P3 at hl;rcases ah.1 hl with hl |hl
   ·split at hl
    ·cases hl
    ·rename_i h0;exact(JZ J (f:=(n:Int)-1) (by omega) l hl).mono (gI J.m0 (by omega))
   ·exact(Ia J ha (f:=(n:Int)) (by omega) l hl).mono (gI J.m0 (by omega))
noncomputable def uv(C:Pc)(am:List (List Int))(fst:Bool)(n k:Nat):Sv:=(Sv.new (cu C n)).cF (jQ C am fst k)
theorem yu{C:Pc}(J:Valid C){am:List (List Int)}(ha:sa C.mx am){fst:Bool}{n k:Nat}(hk:k<=n)(hn:1<=n/\n<=80)(hb:cu C n<=262143):(uv C am fst n k).Fit (cu C n).toNat (jQ C am fst k).length:=by have h:=(Sv.Fit.new (jq J.m0 (f:=(n:Int)) (by omega)) hb).cF (ls:=jQ C am fst k) (by have :=mK J ha.1 fst k;omega) (fun c hc=>(EI J ha fst k hk hn.1 c hc).ra hb);rwa[dd]at h
theorem TO(C:Pc)(am:List (List Int))(fst:Bool)(n k:Nat):uv C am fst n (k+1)=((uv C am fst n k).cF (if k=0 then[]else oo C ((k:Int)-1) C.az.length)).cF (po C am k):=by unfold uv;rw[vO,Sv.td];unfold P3;rw[Sv.td]
theorem vB{w0 w w':World}{L:aO}{S:Sv}(h:Own w0 w L S)(hf:Fr [] w w'){A:Option Addr}{c:Nat}{hs:List Ls}(hn:NwLs w' w.heap.size A c hs){LL:List (List Int)}(hm:hs.map (·.l)=LL)
  {vars V:Nat} (hk:S.Fit vars V) (hv:vars<=262143) (mO:∀l∈LL,BJ vars l) (hl:V+LL.length<=8388608):
  Calls Tryz.prog 70 #[.pointer (some ⟨L.a,0,none⟩), .slice A hs.length c] w' fun e w2=>∃J,e= .returned (.int .i64 0)/\J.a=L.a/\Own w0 w2 J (S.cF LL):=by
 have hx:=h.mark hf hn.marks;have ha:(L.shut w).a=L.a:=rfl;have hc:=DY w' (L.shut w) S hx hk A c hs hn.rdl (fun j hj=>av _ hj) (fun x GO j hj=>bP _ (cH.2 ⟨x,GO,hj⟩))
  (fun x GO=>(mO x.l (hm▸aN.2 ⟨x,GO,rfl⟩)).chk hv) (by rw[<-hm,aG]at hl;exact hl)
 rw[hm]at hc;exact hc.mono fun e w2 ⟨h1,J,h2,h3,_⟩=>⟨J,h1,h2,h3.own⟩
theorem ku{w:World}{g:Nat}{H:Qh}{q:Qn}(h:At w g 40 (pH H q)):
  w.cell? ⟨g,0,none⟩=some (.int .i64 q.C.mx)/\w.cell? ⟨g,1,none⟩=some (.slice H.H.iA q.C.ins.length H.H.iC)/\w.cell? ⟨g,2,none⟩=some (.slice H.H.lA q.C.az.length H.H.lC)/\w.cell? ⟨g,3,none⟩=some (.slice H.H.oA q.C.outs.length H.H.oC)/\
  w.cell? ⟨g,4,none⟩=some (.slice H.H.bA q.C.aI.length H.H.bC)/\w.cell? ⟨g,5,none⟩=some (.slice H.H.vA q.C.aH.length H.H.vC)/\w.cell? ⟨g,6,none⟩=some (.slice H.H.gA q.C.au.length H.H.gC)/\w.cell? ⟨g,7,none⟩=some (.slice H.H.nA q.C.bD.length H.H.nC)/\
  w.cell? ⟨g,8,none⟩=some (.slice H.aA q.am.length H.aC)/\w.cell? ⟨g,9,none⟩=some (.slice H.lA q.ls.length H.lC)/\w.cell? ⟨g,10,none⟩=some (.slice H.kA q.ks.length H.kC)/\
  w.cell? ⟨g,11,none⟩=some (.int .i64 q.bad)/\w.cell? ⟨g,12,none⟩=some (.int .i64 q.dep)/\w.cell? ⟨g,13,none⟩=some (.int .i64 q.ji):=by
 refine⟨?_,?_,?_,?_,?_,?_,?_,?_,?_,?_,?_,?_,?_,?_⟩<;>(rw[h.cell];rfl)
theorem Own.aer{w w1 w2:World}{L:aO}{S:Sv}(h:Own w1 w2 L S)(J:Fr [] w w1):Own w w2 L S:=h.old J
theorem qz(w:World)(H:Qh)(q:Qn)(h:uO w H q)(hu:uV q=0)(jN:sa q.C.mx (q.am.map (·.l)++q.ls.map (·.l)))(hk:q.ks=[])(fst:Bool)(n:Nat)(hn:1<=n/\n<=80)(hb:cu q.C n<=262143):
  Calls Tryz.prog 38 #[mv H q, .int .i64 (n:Int), .bool fst] w fun e w'=>∃L,e= .returned (.tuple #[.pointer (some ⟨L.a,0,none⟩), .int .i64 0])/\Own w w' L (uv q.C (q.am.map (·.l)++q.ls.map (·.l)) fst n n):=by
 obtain⟨J,mT,-⟩:=sE hu;have b5:∀x∈q.am,My x.l:=fun x hx=>by obtain⟨h1,h2⟩:=jN.2 x.l (av _ (aN.2 ⟨x,hx,rfl⟩));exact⟨h1,fun y hy=>by have :=h2 y hy;have :=J.m1;omega⟩
 have b6:∀x∈q.ls,My x.l:=fun x hx=>by obtain⟨h1,h2⟩:=jN.2 x.l (bP _ (aN.2 ⟨x,hx,rfl⟩));exact⟨h1,fun y hy=>by have :=h2 y hy;have :=J.m1;omega⟩
 have vN:q.am.length<=64/\q.ls.length<=64:=by have :=jN.1;rw[an,aG,aG]at this;omega
 obtain⟨w1,eo⟩:∃W,w.alloc (.cells (pH H q) 40)=W:=⟨_,rfl⟩
 have di:Fr [] w w1:=eo▸aR _ _;have dZ:=ae di;have Oa:aj (At w1 w.heap.size 40 (pH H q)):=eo▸At.new _ _ _;have KC:=lH w1 H q (h.keep di);rw[hu]at KC;have KC:=ae KC;have h0:=jq J.m0 (f:=(n:Int)) (by omega);have bg:(((cu q.C n).toNat:Nat):Int)=cu q.C n:=Int.toNat_of_nonneg h0;have KV:=ae (fun W (hW:Fr [] w1 W)=>wg W H.H q.C (h.c.keep (di.ak hW)) J n (by omega));have KN:=ae (fun W=>Wc W (cu q.C n) (by omega) (by omega));have ch:=ae (fun W (hW:Fr [] w1 W)=>Dm W H.H q.C (h.c.keep (di.ak hW)) J);have cn:=ae (fun W (hW:Fr [] w1 W) (f:Int) hf=>FO W H.H q.C (h.c.keep (di.ak hW)) J f hf);have bI:=ae (fun W (hW:Fr [] w1 W) (f:Nat) (hf:f<n)=>AU W H q (h.keep (di.ak hW)) J b6 vN.2 hk b5 vN.1 f (by omega) (by have :=gI J.m0 (f:=(f:Int)) (g:=(n:Int)) (by omega);omega));obtain⟨AM,b0⟩:∃AM,q.am.map (·.l)++q.ls.map (·.l)=AM:=⟨_,rfl⟩
 simp only[b0]at bI jN⊢;have Bi:=fun k (hk:k<=n)=>yu (fst:=fst) J jN hk hn hb;have bb:=fun k=>mK J jN.1 fst k;have GQ:(cu q.C n).toNat<=262143:=by omega
 have aT:aj (fst=true->∀(W0 W W':World) L A c hs,Own W0 W L (Sv.new (cu q.C n))->Fr [] W W'->NwLs W' W.heap.size A c hs->hs.map (·.l)=ut q.C q.C.az.length->Calls Tryz.prog 70 #[.pointer (some ⟨L.a,0,none⟩), .slice A hs.length c] W' fun e w2=>∃L2,e= .returned (.int .i64 0)/\L2.a=L.a/\Own W0 w2 L2 (uv q.C AM fst n 0)):=fun ct W0 W W' L A c hs g1 g2 g3 g4=>by
  have :=vB g1 g2 g3 g4 (Sv.Fit.new h0 hb) GQ (fun l hl=>by rw[bg];exact(TN J l hl).mono (gI J.m0 (by omega))) (by have :=zI q.C q.C.az.length;have :=J.l;omega);have e:jQ q.C AM fst 0=ut q.C q.C.az.length:=by unfold jQ;rw[qai ct];simp
  unfold uv;rw[e];exact this
 have aM:aj (fst=false->Sv.new (cu q.C n)=uv q.C AM fst n 0):=fun Ex=>by show _=_;unfold uv jQ;rw[Ex];rfl
 have bO:aj (∀(W0 W W':World) L A c hs (k:Nat),k<n->0<k->Own W0 W L (uv q.C AM fst n k)->Fr [] W W'->NwLs W' W.heap.size A c hs->hs.map (·.l)=oo q.C ((k:Int)-1) q.C.az.length->Calls Tryz.prog 70 #[.pointer (some ⟨L.a,0,none⟩), .slice A hs.length c] W' fun e w2=>∃L2,e= .returned (.int .i64 0)/\L2.a=L.a/\Own W0 w2 L2 ((uv q.C AM fst n k).cF (if k=0 then[]else oo q.C ((k:Int)-1) q.C.az.length))):=fun W0 W W' L A c hs k hk h0 g1 g2 g3 g4=>by have h5:=Bi k (by omega);rw[qah (by omega)];exact vB g1 g2 g3 g4 h5 GQ (fun l hl=>by rw[bg];exact(JZ J (f:=(k:Int)-1) (by omega) l hl).mono (gI J.m0 (by omega))) (by have :=bb k;have :=J.l;rw[ud];omega)
 have a1:aj (∀(W0 W W':World) L A c hs (k:Nat),k<n->Own W0 W L ((uv q.C AM fst n k).cF (if k=0 then[]else oo q.C ((k:Int)-1) q.C.az.length))->Fr [] W W'->NwLs W' W.heap.size A c hs->hs.map (·.l)=po q.C AM k->Calls Tryz.prog 70 #[.pointer (some ⟨L.a,0,none⟩), .slice A hs.length c] W' fun e w2=>∃L2,e= .returned (.int .i64 0)/\L2.a=L.a/\Own W0 w2 L2 (uv q.C AM fst n (k+1))):=fun W0 W W' L A c hs k hk g1 g2 g3 g4=>by
  have h5:=Bi k (by omega);have h6:∀l∈(if k=0 then[]else oo q.C ((k:Int)-1) q.C.az.length),BJ (cu q.C n) l:=fun l hl=>by
   split at hl
   ·cases hl
   ·exact(JZ J (f:=(k:Int)-1) (by omega) l hl).mono (gI J.m0 (by omega))
  have h7:(if k=0 then[]else oo q.C ((k:Int)-1) q.C.az.length).length<=128:=by
   split
   ·simp
   ·rw[ud];have :=J.l;omega
  have h8:=h5.cF (by have :=bb k;omega) (fun c hc=>(h6 c hc).ra hb);rw[TO];exact vB g1 g2 g3 g4 h8 GQ (fun l hl=>by rw[bg];exact(Ia J jN (f:=(k:Int)) (by omega) l hl).mono (gI J.m0 (by omega))) (by have :=bb k;have :=zJ J jN.1 (k:Int);omega)
 obtain⟨BS,bT⟩:∃BS:Nat->Sv,uv q.C AM fst n=BS:=⟨_,rfl⟩
 obtain⟨BT,b1⟩:∃BT:Nat->Sv,(fun k=>(uv q.C AM fst n k).cF (if k=0 then[]else oo q.C ((k:Int)-1) q.C.az.length))=BT:=⟨_,rfl⟩
 have bS:∀k:Nat,(uv q.C AM fst n k).cF (if k=0 then[]else oo q.C ((k:Int)-1) q.C.az.length)=BT k:=fun k=>congrFun b1 k;have cf:aj (BT 0=BS 0):=by show _=_;rw[<-bS 0,<-bT];rfl
 simp only[bS]at bO a1;simp only[bT]at aT bO a1 aM⊢;obtain⟨ba,Ji⟩:∃ba,cu q.C n=ba:=⟨_,rfl⟩
 simp only[Ji]at KV KN aT aM;obtain⟨SN,b2⟩:∃SN,Sv.new ba=SN:=⟨_,rfl⟩
 simp only[b2]at KN aT aM;have d1:decide (262144<=ba)=false:=qaj (by omega);obtain⟨rP,tm⟩:=hn;have d2:decide ((n:Int)<1)=false:=qaj (by omega);have d3:decide ((80:Int)<(n:Int))=false:=qaj (by omega);clear h hu J mT jN di h0 bg Bi bb GQ bT b1 bS hb Ji b2 b5 b6 vN b0;obtain⟨⟨mx,ins,az,outs,aI,aH,au,bD⟩,am,ls,ks,bad,dep,ji⟩:=q;obtain⟨⟨iA,iC,lA,lC,oA,oC,bA,bC,vA,vC,gA,gC,nA,nC⟩,aA,aC,mA,mC,kA,kC⟩:=H;try simp only at hk
 subst hk;have HQ:=fun W (hW:Fr [] w1 W)=>ku (Oa.o.keep hW);simp only[mv,pH,bY,fv,List.length_nil]at *;have HQ:=ae HQ;obtain⟨q0,q1,q2,q3,q4,q5,q6,q7,q8,q9,jG,jF,jL,jR⟩:=HQ.o w1 (Fr.refl _ _);go_enter Tryz.func38,Tryz.ntmps38;go_wp2_with fail;refine KC.o.mono ?_;rintro e w2 ⟨rfl,cE⟩;have df:=ae cE;clear cE q0 q1 q2 q3 q4 q5 q6 q7 q8 q9 jG jF jL jR KC eo;obtain⟨q0,q1,q2,q3,q4,q5,q6,q7,q8,q9,jG,jF,jL,jR⟩:=HQ.o w2 df.o;go_wp2_with fail;refine(KV.o w2 df.o).mono ?_;rintro e w3 ⟨rfl,dN⟩;have dG:=ae (df.o.ak dN);clear dN q0 q1 q2 q3 q4 q5 q6 q7 q8 q9 jG jF jL jR df;obtain⟨q0,q1,q2,q3,q4,q5,q6,q7,q8,q9,jG,jF,jL,jR⟩:=HQ.o w3 dG.o;go_wp2_with fail;refine(KV.o w3 dG.o).mono ?_;rintro e w4 ⟨rfl,fG⟩;have ic:=ae (dG.o.ak fG);clear fG q0 q1 q2 q3 q4 q5 q6 q7 q8 q9 jG jF jL jR dG;go_wp2_with fail;refine(KN.o w4).mono ?_;rintro e w5 ⟨L5,rfl,h5⟩;have Aw:=ae (h5.aer ic.o);obtain⟨a,ha⟩:∃a,L5.a=a:=⟨_,rfl⟩
 rw[ha];have aK:=ae ha;clear h5 ha ic;cases fst
 case' true=>
  obtain⟨q0,q1,q2,q3,q4,q5,q6,q7,q8,q9,jG,jF,jL,jR⟩:=HQ.o w5 Aw.o.fr;go_wp2_with fail;refine(ch.o w5 Aw.o.fr).mono ?_;rintro e w6 ⟨A6,c6,cy,rfl,b9,Zv,gQ⟩;have ab:=aT.o (by trivial) w1 w5 w6 L5 A6 c6 cy Aw.o gQ b9 Zv;rw[aK.o]at ab;have ab:=ae ab;clear b9 Zv gQ q0 q1 q2 q3 q4 q5 q6 q7 q8 q9 jG jF jL jR;go_wp2_with fail;refine ab.o.mono ?_;rintro e w7 ⟨L7,rfl,b3,h7⟩;have bj:=ae b3;have xY:=ae h7;clear b3 h7 Aw aK ab;go_wp2_with fail
 case' false=>
  have bj:=aK;have xY:aj (Own w1 w5 L5 (BS 0)):=by show Own _ _ _ _;rw[<-aM.o (by trivial)];exact Aw.o
  obtain⟨L7,cr⟩:∃L7,L5=L7:=⟨_,rfl⟩
  subst cr;clear Aw aK;go_wp2_with fail
 all_goals
  go_loopg [43] n (fun g cB wr=>∃(k:Nat)(L:aO),k+g=n/\cB= .int .i64 k/\aj (L.a=a)/\aj (Own w1 wr L (BS k)));case atStart=>exact⟨0,_,by omega,rfl,bj,xY⟩
  case round=>
   clear bj xY;obtain⟨k,L,hk,rfl,HA,HO⟩:=hrel;have HK:=ae hk;have iS:k<=n:=by omega
   clear hk;by_cases bt:k<n
   ·have qJ:(k:Int)<(n:Int):=by omega
    by_cases h0:k=0
    ·subst h0;have bB:aj (Own w1 wr L (BT 0)):=by show Own _ _ _ _;rw[cf.o];exact HO.o
     clear HO;go_upto_region 16 with fail;obtain⟨q0,q1,q2,q3,q4,q5,q6,q7,q8,q9,jG,jF,jL,jR⟩:=HQ.o wr bB.o.fr;go_wp2_with fail;refine(bI.o wr bB.o.fr 0 bt).mono ?_;rintro e wb ⟨Ab,cb,Jc,rfl,Fo,Bh,aB⟩;have Uw:=a1.o w1 wr wb L Ab cb Jc 0 bt bB.o aB Fo Bh;rw[HA.o]at Uw;have Uw:=ae Uw;clear Fo Bh aB q0 q1 q2 q3 q4 q5 q6 q7 q8 q9 jG jF jL jR;go_wp2_with fail;refine Uw.o.mono ?_;rintro e wc ⟨Lc,rfl,ar,hc⟩;have bo:=ae ar;have bG:=ae hc;clear ar hc Uw;go_wp2;go_roundg (gk-1);case measure=>have :=HK.o;omega
     case rel=>exact⟨0+1,Lc,by have :=HK.o;omega,by go_num,bo,bG⟩
    ·have d4:decide ((0:Int)<(k:Int))=true:=qak (by omega);have hw:IntKind.i64.wrap ((k:Int)-1)=(k:Int)-1:=IntWalk.i64_in _ (by omega);have hr:0<=(k:Int)-1/\(k:Int)-1<=79:=(by omega)
     have cp:0<k:=(by omega)
     obtain⟨q0,q1,q2,q3,q4,q5,q6,q7,q8,q9,jG,jF,jL,jR⟩:=HQ.o wr HO.o.fr;go_upto_region 16 with fail;refine(cn.o wr HO.o.fr _ hr).mono ?_;rintro e w8 ⟨A8,c8,cz,rfl,ca,b7,kc⟩;have ad:=bO.o w1 wr w8 L A8 c8 cz k bt cp HO.o kc ca b7;rw[HA.o]at ad;have ad:=ae ad;clear ca b7 kc q0 q1 q2 q3 q4 q5 q6 q7 q8 q9 jG jF jL jR;go_upto_region 16 with fail;refine ad.o.mono ?_;rintro e w9 ⟨L9,rfl,b4,h9⟩;have cc:=ae b4;have Q9:=ae h9;clear b4 h9 HO HA ad hw d4;go_upto_region 16 with fail;obtain⟨q0,q1,q2,q3,q4,q5,q6,q7,q8,q9,jG,jF,jL,jR⟩:=HQ.o w9 Q9.o.fr;go_wp2_with fail;refine(bI.o w9 Q9.o.fr k bt).mono ?_;rintro e wb ⟨Ab,cb,Jc,rfl,Fo,Bh,aB⟩;have Uw:=a1.o w1 w9 wb L9 Ab cb Jc k bt Q9.o aB Fo Bh;rw[cc.o]at Uw;have Uw:=ae Uw;clear Fo Bh aB q0 q1 q2 q3 q4 q5 q6 q7 q8 q9 jG jF jL jR;go_wp2_with fail;refine Uw.o.mono ?_;rintro e wc ⟨Lc,rfl,ar,hc⟩;have bo:=ae ar;have bG:=ae hc;clear ar hc Uw;go_wp2;go_roundg (gk-1);case measure=>have :=HK.o;omega
     case rel=>exact⟨k+1,Lc,by have :=HK.o;omega,by go_num,bo,bG⟩
   ·obtain rfl :k=n:=by omega
    have HF:=ae (HO.o.old dZ.o);clear HK;go_wp2;go_ret2;exact⟨L,by rw[HA.o];rfl,HF.o⟩
theorem MZ{w:World}{e e':TypeId}{size RE n n' c c':Nat}{A A':Option Addr}{vs ab:List Value}(h:w.ownsRow 0 e size (.slice A n c) n vs)(h':w.ownsRow 0 e' RE (.slice A' n' c') n' ab)(dV:e≠e'):∀k,k∈ao A->k∉ao A':=by
 intro k hk lQ;rcases h.2 with⟨h1,_⟩ |⟨g,cap,cur,hv,_,hg,_⟩
 ·simp only[Value.slice.injEq]at h1;rw[h1.1]at hk;simp[ao]at hk
 ·rcases h'.2 with⟨h1,_⟩ |⟨g',ad,ar,J,_,pK,_⟩
  ·simp only[Value.slice.injEq]at h1;rw[h1.1]at lQ;simp[ao]at lQ
  ·simp only[Value.slice.injEq,true_and]at hv J;obtain⟨rfl,rfl⟩:=hv;obtain⟨rfl,rfl⟩:=J;simp[ao]at hk lQ;subst hk lQ;rw[hg]at pK;simp only[Option.some.injEq,Obj.cells.injEq]at pK;exact dV pK.2.1
def apT(C:Pc)(a b:Nat)(aux:Int)(k:Nat):List (List Int):=(List.range k).flatMap (Ui C a b aux)
theorem IG(C:Pc)(a b:Nat)(aux:Int)(k:Nat):apT C a b aux (k+1)=apT C a b aux k++Ui C a b aux k:=by unfold apT;rw[ju,List.flatMap_append];simp
theorem XY(C:Pc)(a b:Nat)(aux:Int)(k:Nat):(apT C a b aux k).length=2*k:=by
 induction k with
 |zero=>simp[apT]
 |succ k J=>
  rw[IG,an,J];simp[Ui];omega
def Jn(aux:Int)(k:Nat):List Int:=(List.range k).map fun i:Nat=>aux+i+1
theorem Uh(aux:Int)(k:Nat):Jn aux (k+1)=Jn aux k++[aux+k+1]:=by unfold Jn;rw[ju,bE];rfl
theorem NwLs.ie{w w':World}{B:Nat}{A:Option Addr}{c:Nat}{hs:List Ls}(k:NwLs w B A c hs){Y:List Nat}(hf:Fr Y w w')(h1:∀j∈ao A,j∉Y)(h2:∀h∈hs,∀j∈ao h.A,j∉Y):NwLs w' B A c hs:=
 ⟨hf.own k.row (fun j hj=>h1 j (by
  rcases A with _ |ad
  ·simp[Value.ownBlock]at hj
  ·simp only[Value.ownBlock,Option.some.injEq]at hj;subst hj;simp[ao])),k.new,fun h J=>⟨(k.each h J).1.fr hf (h2 h J),(k.each h J).2⟩⟩
theorem Dl(w:World)(H:Hd)(C:Pc)(h:eZ w H C)(hv:Valid C)(a b:Nat)(ha:a<=80)(hb:b<=80)(aux:Int)(hx:0<=aux/\aux<=262144):
  Calls Tryz.prog 95 #[bY H C, .int .i64 a, .int .i64 b, .int .i64 aux] w fun e w'=>∃A c hs,e= .returned (.slice A hs.length c)/\NwLs w' w.heap.size A c hs/\hs.map (·.l)=E4 C a b aux/\Fr [] w w':=by
 have HX:=ae (Cx.start w H C);have aB:=ae (iF _ H C (h.keep HX.o.fr) hv a (by omega));have aK:=ae (fun W (hW:Fr [] w W)=>iF W H C (h.keep hW) hv b (by omega));have KL:=ae (fun W (hW:Fr [] w W) (f:Int) (hf:0<=f/\f<=80) n hn=>oT W H C (h.keep hW) hv f hf n hn);have Fc:=ae (fun(f:Int)(hf:0<=f/\f<=80) n hn=>yf hv (f:=f) (n:=n) (by omega) hn);have Ep:=hv.l;have a1:aj (E4 C a b aux=apT C a b aux C.az.length++[Jn aux C.az.length]):=(rfl :_=_)
 have d1:decide (aux<0)=false:=qaj (by omega);have d2:decide (262144<aux)=false:=qaj (by omega);clear h hv;obtain⟨mx,ins,az,outs,aI,aH,au,bD⟩:=C;obtain⟨iA,iC,lA,lC,oA,oC,bA,bC,vA,vC,gA,gC,nA,nC⟩:=H;simp only[bY,fv]at *;obtain⟨c0,c1,c2,c3,c4,c5,c6,c7⟩:=HX.o.cells;go_enter Tryz.func95,Tryz.ntmps95;go_wp2_with fail;refine aB.o.mono ?_;rintro e w1 ⟨rfl,di⟩;have ia:=ae (HX.o.keep di);clear di c0 c1 c2 c3 c4 c5 c6 c7 aB;obtain⟨c0,c1,c2,c3,c4,c5,c6,c7⟩:=ia.o.cells;go_wp2_with fail;refine(aK.o w1 ia.o.fr).mono ?_;rintro e w2 ⟨rfl,cE⟩;have fZ:=ae (ia.o.keep cE);clear cE c0 c1 c2 c3 c4 c5 c6 c7 aK ia;obtain⟨c0,c1,c2,c3,c4,c5,c6,c7⟩:=fZ.o.cells;go_wp2_with fail;clear c0 c1 c2 c3 c4 c5 c6 c7;go_loopg [9,10,36] az.length (fun gk x9 tj bG wr=>∃(k:Nat)(A':Option Addr)(c':Nat)(hs:List Ls)(A2:Option Addr)(c2:Nat),k+gk=az.length/\x9= .slice A' hs.length c'/\tj= .slice A2 k c2/\bG= .int .i64 k/\aj (NwLs wr (w.heap.size+1) A' c' hs)/\aj (hs.map (·.l)=apT ⟨mx,ins,az,outs,aI,aH,au,bD⟩ a b aux k)/\aj (Ints wr A2 c2 (Jn aux k))/\aj (∀j,j∈ao A2->w.heap.size+1<=j)/\aj (∀h∈hs,∀j∈ao h.A,j∉ao A2)/\aj (Cx w wr ⟨iA,iC,lA,lC,oA,oC,bA,bC,vA,vC,gA,gC,nA,nC⟩ ⟨mx,ins,az,outs,aI,aH,au,bD⟩));case atStart=>exact⟨0,none,0,[],none,0,by omega,rfl,rfl,rfl,NwLs.nil _ _,rfl,World.ownsRow_nil _ 0 _ 1,(fun j hj=>by simp[ao]at hj),(fun h hh=>by cases hh),fZ.o⟩
 case round=>
  obtain⟨k,A',c',hs,A2,c2,hk,rfl,rfl,rfl,HN,HE,HI,ab,bj,eh⟩:=hrel;have HK:=ae hk;have iS:k<=az.length:=by omega
  have yk:hs.length=2*k:=by have :=XY ⟨mx,ins,az,outs,aI,aH,au,bD⟩ a b aux k;rw[<-HE.o,aG]at this;exact this
  have sS:(Jn aux k).length=k:=by simp[Jn]
  have AS:=ae sS;clear hk fZ sS;by_cases bt:k<az.length
  ·have eo:IntKind.i64.wrap (aux+(k:Int))=aux+k:=IntWalk.i64_in _ (by omega);have kE:IntKind.i64.wrap (aux+(k:Int)+1)=aux+k+1:=IntWalk.i64_in _ (by omega);have ow:IntKind.i64.wrap ((k:Int)+1)=(k:Int)+1:=IntWalk.i64_in _ (by omega);go_upto_region 9 with fail;obtain⟨d,hd⟩:∃d,aux+(k:Int)+1=d:=⟨_,rfl⟩
   have sT:0<d/\d<=262300:=by omega
   have HD:=ae hd;have CU:=ae (IG ⟨mx,ins,az,outs,aI,aH,au,bD⟩ a b aux k);have AQ:=ae (Uh aux k);have Bj:(k:Int)+1≠0/\ -(az.length:Int)<=(k:Int)+1/\(k:Int)+1<=(az.length:Int):=by omega
   obtain⟨LA,aM⟩:∃LA:Int->Int,(fun f:Int=>sj ⟨mx,ins,az,outs,aI,aH,au,bD⟩ f ((k:Int)+1))=LA:=⟨_,rfl⟩
   have PE:∀f:Int,sj ⟨mx,ins,az,outs,aI,aH,au,bD⟩ f ((k:Int)+1)=LA f:=fun f=>congrFun aM f;obtain⟨x,Ek⟩:∃x,LA a=x:=⟨_,rfl⟩
   obtain⟨y,xD⟩:∃y,LA b=y:=⟨_,rfl⟩
   have rN:=Fc.o a (by omega) _ Bj;have Fk:=Fc.o b (by omega) _ Bj;rw[PE,Ek]at rN;rw[PE,xD]at Fk;have dZ:aj (Ui ⟨mx,ins,az,outs,aI,aH,au,bD⟩ a b aux k=[[-d,x,y],[-d,-x,-y]]):=by show _=_;unfold Ui;rw[PE,PE,Ek,xD,hd]
   obtain⟨e0,e1,e2,e3,e4,e5,e6,e7⟩:=eh.o.ext;have E8:=fun u:Ext wr=>fun(f:Int)(hf:0<=f/\f<=80)=>KL.o u.v (eh.o.fr.ak u.fr) f hf ((k:Int)+1) Bj;simp only[PE]at E8;have E8:=ae E8;rw[hd];clear aM PE eo kE hd Bj;refine ap ?_;repeat (go_big_quiet_step (exact bf (E8.o _ _ (by omega))))
   refine fq ?_;intro J qU;have dG:=ae qU.o;rw[Ek,xD];clear e0 e1 e2 e3 e4 e5 e6 e7 E8 qU Ek xD ow;have vE:IntKind.i64.wrap (-d)= -d:=IntWalk.i64_in _ (by omega);have Cn:IntKind.i64.wrap (-x)= -x:=IntWalk.i64_in _ (by omega);have Bc:IntKind.i64.wrap (-y)= -y:=IntWalk.i64_in _ (by omega);obtain⟨wb,fS⟩:∃W,((J.alloc (.cells #[.int .i64 (-d), .int .i64 x, .int .i64 y] 3)).alloc (.cells #[.int .i64 (-d), .int .i64 (-x), .int .i64 (-y)] 3)).alloc (.cells #[.slice (some ⟨J.heap.size,0,none⟩) 3 3, .slice (some ⟨J.heap.size+1,0,none⟩) 3 3] 22)=W:=⟨_,rfl⟩
   have nv:aj (Ints wb (some ⟨J.heap.size,0,none⟩) 3 [-d,x,y]):=fS▸((gS J [-d,x,y] (by simp[maxLen])).alloc _).alloc _;have n8:aj (Ints wb (some ⟨J.heap.size+1,0,none⟩) 3 [-d,-x,-y]):=by have :=gS (J.alloc (.cells #[.int .i64 (-d), .int .i64 x, .int .i64 y] 3)) [-d,-x,-y] (by simp[maxLen]);rw[show(J.alloc (.cells #[.int .i64 (-d), .int .i64 x, .int .i64 y] 3)).heap.size=J.heap.size+1 by simp]at this;exact fS▸this.alloc _
   have ib:aj (Fr [] J wb):=fS▸(((aR _ _).ak (aR _ _)).ak (aR _ _));have j4:At wb (J.heap.size+2) 22 #[.slice (some ⟨J.heap.size,0,none⟩) 3 3, .slice (some ⟨J.heap.size+1,0,none⟩) 3 3]:=by have :=At.new ((J.alloc (.cells #[.int .i64 (-d), .int .i64 x, .int .i64 y] 3)).alloc (.cells #[.int .i64 (-d), .int .i64 (-x), .int .i64 (-y)] 3)) 22 #[.slice (some ⟨J.heap.size,0,none⟩) 3 3, .slice (some ⟨J.heap.size+1,0,none⟩) 3 3];rw[show((J.alloc (.cells #[.int .i64 (-d), .int .i64 x, .int .i64 y] 3)).alloc (.cells #[.int .i64 (-d), .int .i64 (-x), .int .i64 (-y)] 3)).heap.size=J.heap.size+2 by simp]at this;exact fS▸this
   have CZ:=ae j4;have bI:aj (wb.heap.size=J.heap.size+3):=by show _=_;rw[<-fS];simp
   clear j4;have Yj:=ae rN;have Yi:=ae Fk;have YO:=ae sT;have qQ:aj (w.heap.size+1<=J.heap.size):=(aE eh.o.bx.lt dG.o.size:w.heap.size+1<=J.heap.size)
   have nY:aj (wr.heap.size<=J.heap.size):=(dG.o.size:wr.heap.size<=J.heap.size)
   have U0:aj (∀j,j∈ao A2->j∉ao A'):=MZ HI.o HN.o.row (by decide);have bO:aj (∀j,j∈ao A'->j∉ao A2):=fun j h1 h2=>U0.o j h2 h1;have bo:aj (∀j,j∈ao A2->j<wr.heap.size):=RY HI.o;go_upto_region 11 with(at_builtin;(refine gv _ rfl _ _ rfl A' c' hs (HN.o.keep dG.o) ib.o (aE qQ.o ib.o.size) hs.length rfl rfl ⟨J.heap.size+2,0,none⟩ 2 2 [⟨some ⟨J.heap.size,0,none⟩,3,[-d,x,y]⟩,⟨some ⟨J.heap.size+1,0,none⟩,3,[-d,-x,-y]⟩] rfl rfl (fun j hj=>by(have :j=0\/j=1:=by simp at hj;omega);rcases this with rfl |rfl;(rw[dQ,CZ.o.cell];rfl);(rw[dQ,CZ.o.cell];rfl)) (fun h hh=>by(have Ti:=hh;simp only[ay,bi,or_false]at Ti);rcases Ti with rfl |rfl;(exact⟨nv.o,RQ ⟨by have :=YO.o;omega,by have :=YO.o;omega⟩ ⟨by have :=Yj.o;omega,by have :=Yj.o;omega⟩ ⟨by have :=Yi.o;omega,by have :=Yi.o;omega⟩,by simp,fun k hk=>by simp[ao]at hk;subst hk;exact qQ.o⟩);(exact⟨n8.o,RQ ⟨by have :=YO.o;omega,by have :=YO.o;omega⟩ ⟨by have :=Yj.o;omega,by have :=Yj.o;omega⟩ ⟨by have :=Yi.o;omega,by have :=Yi.o;omega⟩,by simp,fun k hk=>by simp[ao]at hk;subst hk;have :=qQ.o;omega⟩)) (by simp;omega) ?_;intro A4 c4 w4 uX fG;have uP:=ae uX;have ic:=ae fG;clear uX fG))
   have ar:aj (Ints w4 A2 c2 (Jn aux k)):=((HI.o.fr dG.o (fun k hk hm=>by cases hm)).fr ib.o (fun k hk hm=>by cases hm)).fr ic.o U0.o;have jr:aj (Cx w w4 ⟨iA,iC,lA,lC,oA,oC,bA,bC,vA,vC,gA,gC,nA,nC⟩ ⟨mx,ins,az,outs,aI,aH,au,bD⟩):=((eh.o.keep dG.o).keep ib.o).push ic.o (HN.o.lt (by omega));have N7:aj (∀h∈hs++[(⟨some ⟨J.heap.size,0,none⟩,3,[-d,x,y]⟩:Ls),(⟨some ⟨J.heap.size+1,0,none⟩,3,[-d,-x,-y]⟩:Ls)],∀j∈ao h.A,j∉ao A2):=fun h hh j hj hm=>by
    rcases ah.1 hh with h1 |h1
    ·exact bj.o h h1 j hj hm
    ·have h3:=bo.o j hm;have h4:=nY.o;simp only[ay,bi,or_false]at h1;rcases h1 with rfl |rfl <;>simp[ao]at hj<;>omega
   have Qt:aj (∀h∈hs++[(⟨some ⟨J.heap.size,0,none⟩,3,[-d,x,y]⟩:Ls),(⟨some ⟨J.heap.size+1,0,none⟩,3,[-d,-x,-y]⟩:Ls)],∀j∈ao h.A,j<w4.heap.size):=fun h hh=>RY (uP.o.each h hh).1;have api:aj (∀j∈ao A4,j∉ao A2):=fun j h1 h2=>MZ ar.o uP.o.row (by decide) j h2 h1;obtain⟨w5,ad⟩:∃W,w4.alloc (.cells #[.int .i64 d] 3)=W:=⟨_,rfl⟩
   have js:aj (Fr [] w4 w5):=ad▸aR _ _;have VJ:aj (w5.cell? ⟨w4.heap.size,0,none⟩=some (.int .i64 d)):=(ad▸(At.new w4 3 #[.int .i64 d]).cell 0:w5.cell? ⟨w4.heap.size,0,none⟩=some (.int .i64 d))
   have Vy:aj (w4.heap.size<=w5.heap.size):=(js.o.size:w4.heap.size<=w5.heap.size)
   clear fS nv n8;go_wp2_with (at_builtin;(refine cL _ rfl _ _ rfl A2 c2 (Jn aux k) k rfl AS.o.symm (ar.o.fr js.o (fun k hk hm=>by cases hm)) ⟨w4.heap.size,0,none⟩ 1 d rfl VJ.o (by rw[AS.o];omega) ?_;intro g6 c6 w6 Vl gQ aT bB;have ba:=ae Vl;have fC:=ae gQ;have Qs:=ae aT;clear Vl gQ aT bB))
   clear ad;have bg:=ae ((uP.o.keep js.o).ie fC.o api.o N7.o);have vU:aj (Cx w w6 ⟨iA,iC,lA,lC,oA,oC,bA,bC,vA,vC,gA,gC,nA,nC⟩ ⟨mx,ins,az,outs,aI,aH,au,bD⟩):=(jr.o.keep js.o).push fC.o (fun j hj=>by have :=ab.o j hj;omega);have Fi:aj (w.heap.size+1<=g6):=by
    rcases Qs.o with h1 |h1
    ·exact ab.o g6 h1
    ·rw[h1];exact aE jr.o.bx.lt Vy.o
   have Q7:aj (∀h∈hs++[(⟨some ⟨J.heap.size,0,none⟩,3,[-d,x,y]⟩:Ls),(⟨some ⟨J.heap.size+1,0,none⟩,3,[-d,-x,-y]⟩:Ls)],∀j∈ao h.A,j∉ao (some ⟨g6,0,none⟩)):=fun h hh j hj hm=>by
    simp[ao]at hm;subst hm;rcases Qs.o with h1 |h1
    ·exact N7.o h hh j hj h1
    ·have :=Qt.o h hh j hj;have :=Vy.o;omega
   go_roundg (gk-1);case measure=>have :=HK.o;omega
   case rel=>
    refine⟨k+1,A4,c4,hs++[(⟨some ⟨J.heap.size,0,none⟩,3,[-d,x,y]⟩:Ls),(⟨some ⟨J.heap.size+1,0,none⟩,3,[-d,-x,-y]⟩:Ls)],some ⟨g6,0,none⟩,c6,by have :=HK.o;omega,by rw[an,yk];rfl,rfl,by go_num,bg.o,(by rw[bE,HE.o,CU.o,dZ.o];rfl :_=_),?_,fun j hj=>by simp[ao]at hj;subst hj;exact Fi.o,Q7.o,vU.o⟩;have h1:=AQ.o;rw[HD.o]at h1;show Ints _ _ _ _;rw[h1];exact ba.o
  ·obtain rfl :k=az.length:=by omega
   clear HK;have Jp:=ae yk;clear yk;obtain⟨wb,fS⟩:∃W,wr.alloc (.cells #[.slice A2 az.length c2] 22)=W:=⟨_,rfl⟩
   have ib:aj (Fr [] wr wb):=fS▸aR _ _;have CZ:aj (wb.cell? ⟨wr.heap.size,0,none⟩=some (.slice A2 az.length c2)):=(fS▸(At.new wr 22 #[.slice A2 az.length c2]).cell 0:wb.cell? ⟨wr.heap.size,0,none⟩=some (.slice A2 az.length c2))
   have bb:aj (Ints wb A2 c2 (Jn aux az.length)):=HI.o.fr ib.o (fun k hk hm=>by cases hm);have tf:aj (Ra (Jn aux az.length)):=fun j hj=>by
    have h1:(Jn aux az.length)[j]! =aux+j+1:=by rw[aa,af hj];simp[Jn]
    have h2:=AS.o;rw[h1];constructor<;>omega
   have qQ:aj (w.heap.size+1<=wb.heap.size):=(aE eh.o.bx.lt ib.o.size:w.heap.size+1<=wb.heap.size)
   go_wp2_with (at_builtin;(refine gv _ rfl _ _ rfl A' c' hs HN.o ib.o qQ.o hs.length rfl rfl ⟨wr.heap.size,0,none⟩ 1 1 [⟨A2,c2,Jn aux az.length⟩] rfl rfl (fun j hj=>by(have :j=0:=by simp at hj;omega);subst this;(rw[dQ]);(show wb.cell? ⟨wr.heap.size,0,none⟩=some (Value.slice A2 (Jn aux az.length).length c2));(rw[AS.o]);exact CZ.o) (fun h hh=>by(have Ti:=hh;simp only[ay,bi,or_false]at Ti);subst Ti;exact⟨bb.o,tf.o,by show(Jn aux az.length).length<=_;rw[AS.o];omega,ab.o⟩) (by have :=Jp.o;simp;omega) ?_;intro A4 c4 w4 uX fG;have uP:=ae uX;have ic:=ae fG;clear uX fG))
   go_ret;have jr:Cx w w4 ⟨iA,iC,lA,lC,oA,oC,bA,bC,vA,vC,gA,gC,nA,nC⟩ ⟨mx,ins,az,outs,aI,aH,au,bD⟩:=(eh.o.keep ib.o).push ic.o (HN.o.lt (by omega));refine⟨A4,c4,_,?_,uP.o.low (by omega),?_,jr.fr⟩
   ·rw[an];rfl
   ·rw[bE,HE.o,a1.o];rfl
theorem sD{x:Int}(h: -9223372036854775808<=x/\x<=9223372036854775807):wrap64 x=x:=by unfold wrap64;omega
theorem RI{J:Int}{P:Nat}(h:0<=J/\J<=165969)(hP:P<=500000):wrap64 (J+wrap64 ((wrap64 (P:Int)).tdiv 2))=J+((P/2:Nat):Int):=by
 have e2:((P:Int)).tdiv 2=((P/2:Nat):Int):=rfl;rw[sD (x:=(P:Int)) (by omega),e2];have hQ:P/2<=500000:=by omega
 generalize P/2=Q at hQ;rw[sD (x:=(Q:Int)) (by omega),sD (by omega)]
def sY(q:Qn):Int:=q.C.aI[q.bad.toNat]!
theorem yy{q:Qn}(J:Valid q.C)(hb:0<=q.bad/\q.bad<q.C.aI.length):0<=sY q/\sY q<=2*q.C.mx+1:=by have h1:=J.b;unfold nR at h1;rw[ax,cR]at h1;exact fI J (h1.1 _ (bk (by omega)))
theorem zn(w:World)(H:Qh)(q:Qn)(h:uO w H q)(J:Valid q.C)(hb:0<=q.bad/\q.bad<q.C.aI.length)(k:Nat)(hk:k<=79):
  Calls Tryz.prog 64 #[mv H q, .int .i64 k] w fun e w'=>e= .returned (.int .i64 (bV (cu q.C k) (sY q)))/\Fr [] w w':=by
 obtain⟨w1,eo⟩:∃W,w.alloc (.cells (pH H q) 40)=W:=⟨_,rfl⟩
 have di:Fr [] w w1:=eo▸aR _ _;have nU:At w1 w.heap.size 40 (pH H q):=eo▸At.new _ _ _;have KB:=fun W (hW:Fr [] w1 W)=>p9 W H.H q.C (h.c.keep (di.ak hW)) J k (by omega);have hr:=jp J.m0 J.m1 (f:=(k:Int)) (by omega);have aB:=yy J hb;have sl:=J.m1;have KT:=ae (fun W=>vz W (cu q.C k) (sY q) (by omega) (by omega));obtain⟨bb,bo,bx,Vn,ZC,XW,-⟩:=(h.c.keep di).b.one h.c.br (show q.bad.toNat<q.C.aI.length by omega);have ab:sY q=bx:=ZC.o;rw[ab]at KT⊢;obtain⟨bn,rC⟩:∃bn:Nat,q.bad=bn:=⟨q.bad.toNat,by omega⟩
 have ad:q.bad.toNat=bn:=by omega
 rw[ad]at XW;have aM:(bn:Int)<(q.C.aI.length:Int):=by omega
 have aK:bn<q.C.aI.length:=by omega
 obtain⟨ba,Ji⟩:∃ba,cu q.C (k:Int)=ba:=⟨_,rfl⟩
 rw[Ji]at KT⊢;simp only[Ji]at KB;have dZ:=ae di;obtain⟨q0,q1,q2,q3,q4,q5,q6,q7,q8,q9,jG,jF,jL,jR⟩:=ku nU;rw[Vn]at q4;rw[rC]at jF;have ar:=Vn;obtain⟨g0,g1,g2,g3,g4,g5,g6,g7⟩:=zO q0 q1 q2 q3 q4 q5 q6 q7;have g11:=Ext.cell jF;have gb:=Ext.cell XW;simp only[mv,pH,bY,fv,Vn,rC]at KB eo⊢;have KB:=ae KB;clear h J hb nU di hr aB sl ZC ab Vn rC ad Ji XW q0 q1 q2 q3 q4 q5 q6 q7 q8 q9 jG jF jL jR ar;go_enter Tryz.func64,Tryz.ntmps64;go_upto_region 1 with fail;clear eo;refine ap ?_;repeat (go_big_quiet_step (first |exact bf (KB.o _ (Ext.fr _)) |exact bp (KT.o _)))
 refine fq ?_;intro w2 aT;go_wp2;go_ret;exact⟨rfl,dZ.o.ak aT.o⟩
theorem wN(w:World)(H:Qh)(q:Qn)(h:uO w H q)(hv:Valid q.C)(k:Nat)(hk:k<=79)(hL:q.C.az.length*k*(k+1)<=500000):
  Calls Tryz.prog 34 #[mv H q, .int .i64 k] w fun e w'=>e= .returned (.int .i64 (cu q.C ((k+1:Nat):Int)+((q.C.az.length*k*(k+1)/2:Nat):Int)))/\Fr [] w w':=by
 obtain⟨w1,eo⟩:∃W,w.alloc (.cells (pH H q) 40)=W:=⟨_,rfl⟩
 have di:Fr [] w w1:=eo▸aR _ _;have nU:At w1 w.heap.size 40 (pH H q):=eo▸At.new _ _ _;have KB:=fun W (hW:Fr [] w1 W)=>wg W H.H q.C (h.c.keep (di.ak hW)) hv ((k+1:Nat):Int) (by omega);have hr:=jp hv.m0 hv.m1 (f:=((k+1:Nat):Int)) (by omega);obtain⟨ba,Ji⟩:∃ba,cu q.C ((k+1:Nat):Int)=ba:=⟨_,rfl⟩
 rw[Ji]at hr⊢;simp only[Ji]at KB;have dZ:=ae di;obtain⟨L,J⟩:∃L,q.C.az.length=L:=⟨_,rfl⟩
 obtain⟨q0,q1,q2,q3,q4,q5,q6,q7,q8,q9,jG,jF,jL,jR⟩:=ku nU;rw[J]at q2 hL⊢;obtain⟨g0,g1,g2,g3,g4,g5,g6,g7⟩:=zO q0 q1 q2 q3 q4 q5 q6 q7;have Er:((k+1:Nat):Int)=(k:Int)+1:=by omega
 rw[Er]at KB;simp only[mv,pH,bY,fv,J]at KB eo⊢;have KB:=ae KB;have ad:L*k<=500000:=by have :L*k*1<=L*k*(k+1):=Nat.mul_le_mul_left _ (by omega);omega
 have m1:IntKind.i64.wrap ((L:Int)*(k:Int))=((L*k:Nat):Int):=by rw[<-Int.natCast_mul];exact IntWalk.i64_in _ (by omega)
 have m2:IntKind.i64.wrap ((k:Int)+1)=(k:Int)+1:=IntWalk.i64_in _ (by omega);have m3:IntKind.i64.wrap (((L*k:Nat):Int)*((k:Int)+1))=((L*k*(k+1):Nat):Int):=by rw[show(k:Int)+1=((k+1:Nat):Int) by omega,<-Int.natCast_mul];exact IntWalk.i64_in _ (by omega)
 clear h hv nU di Ji q0 q1 q2 q3 q4 q5 q6 q7 q8 q9 jG jF jL jR J Er;go_enter Tryz.func34,Tryz.ntmps34;go_upto_region 1 with fail;clear eo;refine ap ?_;repeat (go_big_quiet_step (exact bf (KB.o _ (Ext.fr _))))
 refine fq ?_;intro w2 aT;go_wp2;go_ret;refine⟨?_,dZ.o.ak aT.o⟩;show Ending.returned (.int .i64 (wrap64 (ba+wrap64 ((wrap64 ((L:Int)*(k:Int)*((k:Int)+1))).tdiv 2))))=_;have ab:(L:Int)*(k:Int)*((k:Int)+1)=((L*k*(k+1):Nat):Int):=by rw[Int.natCast_mul,Int.natCast_mul];rfl
 rw[ab];generalize L*k*(k+1)=P at hL⊢;exact aaa (fun x=>Ending.returned (.int .i64 x)) (RI hr hL)
theorem Rq(s:List UInt8):sv s= .string (tx s):=rfl
theorem nu{n:Nat}{s:List UInt8}(h:s∈bW n):lG (tx s) n=true:=by
 unfold lG;rw[ax,cR,qam];refine⟨fun x J=> ?_,by rw[iG];exact im h⟩;have J:x∈s:=by simpa[tx]using J
 rcases vS h x J with rfl |rfl <;>rfl
theorem An{n:Nat}{s:List UInt8}(h:s∈bW n)(J:n<=64):(tx s).size<=maxLen:=by rw[iG,im h];unfold maxLen;omega
theorem nK(w:World)(H:Hd)(C:Pc)(h:eZ w H C)(J:H.iA=none->C.ins.length=0/\H.iC=0)(hv:Valid C){s i:List UInt8}(hs:s∈bW C.az.length)(hi:i∈bW C.ins.length):
  Calls Tryz.prog 14 #[bY H C,sv s,sv i] w fun e w'=>e= .returned (.tuple #[sv (vL C s i), .int .i64 0])/\Fr [] w w':=by
 exact tF w H C (tx s) (tx i) h J hv (nu hs) (nu hi)
theorem wO(w:World)(H:Hd)(C:Pc)(h:eZ w H C)(J:H.iA=none->C.ins.length=0/\H.iC=0)(hv:Valid C){s i:List UInt8}(hs:s∈bW C.az.length)(hi:i∈bW C.ins.length):
  Calls Tryz.prog 28 #[bY H C,sv s,sv i] w fun e w'=>e= .returned (.tuple #[sv (mR C s i), .int .i64 0])/\Fr [] w w':=by
 exact JU w H C (tx s) (tx i) h J hv (nu hs) (nu hi)
theorem qac{C:Pc}(J:Valid C)(s i:List UInt8):(vL C s i).length<=2049:=by have h1:=tC C J.m0;have h2:=J.m1;unfold vL;rw[FK];omega
def idx(s:List UInt8):Nat->Nat
 |0=>0
 |k+1=>2*idx s k+(s[k]!.toNat-48)
theorem Sw{n:Nat}{s:List UInt8}(h:s∈bW n):∀k,k<=n->idx s k<2^k
 |0,_=>by simp[idx]
 |k+1,hk=>by have h1:=Sw h k (by omega);rw[idx,Nat.pow_succ];rcases oH h (show k<n by omega)with J |J<;>rw[J]<;>simp <;>omega
theorem Eg(w:World){n:Nat}(hn:n<=8){s:List UInt8}(h:s∈bW n):
  Calls Tryz.prog 29 #[sv s] w fun e w'=>e= .returned (.int .i64 (idx s n:Int))/\Fr [] w w':=by
 have hz:(tx s).size=n:=by rw[iG];exact im h
 have J:aj (∀(k:Nat)(hk:k<(tx s).size),(tx s)[k]=48/\idx s (k+1)=2*idx s k\/(tx s)[k]=49/\idx s (k+1)=2*idx s k+1):=fun k hk=>by
  have e:(tx s)[k]=s[k]! :=by rw[Rj s k hk,aa,af (by rw[<-iG];exact hk)];rfl
  rw[e,idx];rcases oH h (show k<n by omega)with h2 |h2
  ·left
   rw[h2];exact⟨rfl,by simp⟩
  ·right
   rw[h2];exact⟨rfl,by simp⟩
 have HL:aj (∀k,k<=n->idx s k<256):=fun k hk=>by have h1:=Sw h k hk;have h2:2^k<=2^8:=Nat.pow_le_pow_right (by omega) (by omega);omega
 rw[Rq];revert J hz;generalize tx s=Z;intro hz J;obtain⟨f,hf⟩:∃f:Nat->Nat,idx s=f:=⟨_,rfl⟩
 have QV:f 0=0:=by rw[<-hf];rfl
 rw[hf]at J HL⊢;have Fg:=ae QV;clear hf QV h;go_enter Tryz.func29,Tryz.ntmps29;go_wp2_with fail;go_loopg [3,4] n (fun g x3 x4 wr=>∃k:Nat,k+g=n/\x3= .int .i64 (f k:Int)/\x4= .int .i64 k/\aj (Fr [] w wr));case atStart=>exact⟨0,by omega,by rw[Fg.o];rfl,rfl,Fr.refl _ w⟩
 case round=>
  obtain⟨k,hk,rfl,rfl,HX⟩:=hrel;have HK:=ae hk;have iS:k<=n:=by omega
  clear hk;by_cases bt:k<n
  ·have qJ:(k:Int)<(Z.size:Int):=by omega
   have h1:k<Z.size:=by omega
   have hb:=HL.o k (by omega);have kZ:=HL.o (k+1) (by omega);rcases J.o k h1 with⟨e1,e2⟩ |⟨e1,e2⟩
   ·go_wp2;go_roundg (gk-1);case measure=>have :=HK.o;omega
    case rel=>exact⟨k+1,by have :=HK.o;omega,by rw[e2];go_num,by go_num,HX⟩
   ·go_wp2;go_roundg (gk-1);case measure=>have :=HK.o;omega
    case rel=>exact⟨k+1,by have :=HK.o;omega,by rw[e2];go_num,by go_num,HX⟩
  ·obtain rfl :k=n:=by omega
   go_wp2;go_ret;exact⟨rfl,HX.o⟩
def rM(C:Pc)(s:List UInt8):Bool:=lG (tx s) C.az.length&&(List.range C.az.length).all fun k=>(C.az[k]!).c==(C.az[k]!).a || ((C.az[k]!).c==1)==(s[k]! ==49)
theorem zp{C:Pc}(hv:Valid C){s:List UInt8}(hs:s∈bW C.az.length):rM C s=true↔kf C s:=by
 unfold rM kf;rw[nu hs,ff,cR];constructor
 ·intro h;refine⟨hs,fun k hk=> ?_⟩;have h1:=h k (bl.2 hk);have h2:=eF hv k hk;rcases oH hs hk with h3 |h3<;>rw[h3]at h1⊢
  ·refine⟨fun _=>rfl,fun e=> ?_⟩;rw[e,dI]at h1;rcases h1 with h1 |h1
   ·have :=beq_iff_eq.1 h1;omega
   ·cases h1
  ·refine⟨fun e=> ?_,fun _=>rfl⟩;rw[e,dI]at h1;rcases h1 with h1 |h1
   ·have :=beq_iff_eq.1 h1;omega
   ·cases h1
 ·rintro⟨-,h⟩ k hk;have hk:=bl.1 hk;obtain⟨h1,h2⟩:=h k hk;have h3:=hv.az k hk;unfold Bb vh at h3;simp only[ax,dI,qam]at h3;rw[dI];rcases h3.1 with(J |J) |J
  ·right
   rw[h1 J,J];rfl
  ·right
   rw[h2 J,J];rfl
  ·left
   rw[J];exact beq_self_eq_true _
def tc(C:Pc)(L:List UInt8):Bool:=C.aH.all (lJ L)
theorem mE(w:World)(H:Hd)(C:Pc)(h:eZ w H C)(hv:Valid C)(L:List UInt8)(hL:L.length<=4096):
  Calls Tryz.prog 15 #[bY H C, .slice none 0 0,sv L] w fun e w'=>e= .returned (.bool (tc C L))/\Fr [] w w':=by
 have HX:=ae (Cx.start w H C);have HH:=ae h;have xo:=ae h.vr;have aM:=ae (fun x hx=>(zo hv x hx:0<=x/\x<=2*C.mx+1));have sl:=hv.m1;have lP:=h.vL;have KT:=ae (fun W (l:Int) (h0:0<=l/\l<=9000)=>jv W L l h0.1 h0.2 hL);have ar:aj (∀k,k<C.aH.length->(C.aH.take (k+1)).all (lJ L)=((C.aH.take k).all (lJ L)&&lJ L C.aH[k]!)):=fun k hk=>by rw[List.take_succ_eq_append_getElem hk,List.all_append,aa,af hk];simp
 have ab:aj (∀k,k<C.aH.length->lJ L C.aH[k]! =false->tc C L=false):=fun k hk hf=>by unfold tc;rw[List.all_eq_false];exact⟨_,bk hk,by simpa using hf⟩
 have J:aj ((C.aH.take C.aH.length).all (lJ L)=true->tc C L=true):=fun h=>by rw[cN]at h;exact h
 obtain⟨eH,eB⟩:∃eH,tc C L=eH:=⟨_,rfl⟩
 rw[eB]at ab J⊢;rw[Rq]at *;obtain⟨Z,hZ⟩:∃Z,tx L=Z:=⟨_,rfl⟩
 rw[hZ]at KT⊢;obtain⟨TR,aB⟩:∃TR,lJ L=TR:=⟨_,rfl⟩
 rw[aB]at KT ar ab J;clear h hv eB hZ aB hL;obtain⟨mx,ins,az,outs,aI,aH,au,bD⟩:=C;obtain⟨iA,iC,lA,lC,oA,oC,bA,bC,vA,vC,gA,gC,nA,nC⟩:=H;simp only[bY,fv]at *;go_enter Tryz.func15,Tryz.ntmps15;go_wp2_with fail;go_loopg [7] aH.length (fun g x7 wr=>∃k:Nat,k+g=aH.length/\x7= .int .i64 k/\aj (Cx w wr ⟨iA,iC,lA,lC,oA,oC,bA,bC,vA,vC,gA,gC,nA,nC⟩ ⟨mx,ins,az,outs,aI,aH,au,bD⟩)/\aj ((aH.take k).all TR=true));case atStart=>exact⟨0,by omega,rfl,HX,rfl⟩
 case round=>
  obtain⟨k,hk,rfl,eh,HT⟩:=hrel;have HK:=ae hk;have iS:k<=aH.length:=by omega
  clear hk;obtain⟨c0,c1,c2,c3,c4,c5,c6,c7⟩:=eh.o.cells;by_cases bt:k<aH.length
  ·obtain⟨b,o,x,hA,hx,cx,-⟩:=(HH.o.keep eh.o.fr).v.one xo.o bt;try simp only at hA hx
   subst hA;have rN:0<=x/\x<=2*mx+1:=aM.o x (by rw[<-hx.o];exact bk bt);have ad:=KT.o wr x (by omega);have pR:(k:Int)<(aH.length:Int):=by omega
   obtain⟨t,ht⟩:∃t,TR x=t:=⟨_,rfl⟩
   rw[ht]at ad;have vN:=ar.o k bt;rw[hx.o,HT.o,ht]at vN;have aK:=ae vN;have oS:aj (t=false->eH=false):=fun e=>ab.o k bt (by rw[hx.o,ht,e]);clear vN rN ht hx;go_wp2_with fail;refine ad.mono ?_;rintro e w2 ⟨rfl,cE⟩;have fZ:=ae (eh.o.keep cE);clear cE c0 c1 c2 c3 c4 c5 c6 c7 cx ad;cases t with
   |true=>
    go_wp2;go_roundg (gk-1);case measure=>have :=HK.o;omega
    case rel=>exact⟨k+1,by have :=HK.o;omega,by go_num,fZ,aK.o⟩
   |false=>
    have hr:=oS.o rfl;subst hr;go_wp2;go_ret;exact⟨rfl,fZ.o.fr⟩
  ·obtain rfl :k=aH.length:=by omega
   have hr:=J.o HT.o;subst hr;clear HK;go_wp2_with fail;go_loopg [8] 0 (fun g x8 wq=>x8= .int .i64 0/\aj (Fr [] w wq));case atStart=>exact⟨rfl,eh.o.fr⟩
   case round=>
    obtain⟨rfl,Js⟩:=hrel;go_wp2;go_ret;exact⟨rfl,Js.o⟩
def OQ(C:Pc)(s:List UInt8)(k:Nat):Bool:=(C.az[k]!).c==(C.az[k]!).a || ((C.az[k]!).c==1)==(s[k]! ==49)
theorem qF(w:World)(H:Hd)(C:Pc)(h:eZ w H C)(hv:Valid C){s:List UInt8}(hs:s∈bW C.az.length):
    Calls Tryz.prog 27 #[bY H C,sv s] w fun e w'=>e= .returned (.bool (rM C s))/\Fr [] w w':=by
  have HX:=ae (Cx.start w H C);have HH:=ae h;have rY:=ae h.lr;have Ep:=hv.l;have hz:(tx s).size=C.az.length:=by rw[iG];exact im hs
  have KB:=ae (fun W=>px W (tx s) C.az.length (An hs hv.l) (by omega));rw[nu hs]at KB;have HB:aj (∀(k:Nat)(hk:k<(tx s).size),(tx s)[k]=48/\s[k]! =48\/(tx s)[k]=49/\s[k]! =49):=fun k hk=>by
    have e:(tx s)[k]=s[k]! :=by rw[Rj s k hk,aa,af (by rw[<-iG];exact hk)];rfl
    rw[e];rcases oH hs (show k<C.az.length by omega)with h2 |h2
    . exact .inl ⟨h2,h2⟩
    . exact .inr ⟨h2,h2⟩
  have HF:aj (∀k,k<C.az.length->OQ C s k=false->rM C s=false):=fun k hk hf=>by
    unfold rM;rw[Bool.and_eq_false_iff]
    right
    rw[List.all_eq_false];exact⟨k,bl.2 hk,by unfold OQ at hf;simpa using hf⟩
  have HE:aj ((∀k,k<C.az.length->OQ C s k=true)->rM C s=true):=fun h=>by unfold rM;rw[nu hs,ff,cR];exact fun k hk=>h k (bl.1 hk)
  have ar:aj (∀(k:Nat)(x y z:Int),C.az[k]! =⟨x,y,z⟩->OQ C s k=(z==x || ((z==1)==(s[k]! ==49)))):=fun k x y z e=>by unfold OQ;rw[e]
  obtain⟨eH,eB⟩:∃eH,rM C s=eH:=⟨_,rfl⟩
  obtain⟨T,hT⟩:∃T,OQ C s=T:=⟨_,rfl⟩
  rw[eB]at HF HE⊢;simp only[hT]at HF HE ar;rw[Rq];revert KB HB hz;generalize tx s=Z;intro hz KB HB;clear h hv eB hT hs;obtain⟨mx,ins,az,outs,aI,aH,au,bD⟩:=C;obtain⟨iA,iC,lA,lC,oA,oC,bA,bC,vA,vC,gA,gC,nA,nC⟩:=H;simp only[bY,fv]at *;obtain⟨c0,c1,c2,c3,c4,c5,c6,c7⟩:=HX.o.cells;go_enter Tryz.func27,Tryz.ntmps27;go_wp2_with fail;refine(KB.o _).mono ?_;rintro e w1 ⟨rfl,di⟩;have ia:=ae (HX.o.keep di);clear di c0 c1 c2 c3 c4 c5 c6 c7 HX KB;go_wp2_with fail;go_loopg [5] az.length (fun g x5 wr=>∃k:Nat,k+g=az.length/\x5= .int .i64 k/\aj (Cx w wr ⟨iA,iC,lA,lC,oA,oC,bA,bC,vA,vC,gA,gC,nA,nC⟩ ⟨mx,ins,az,outs,aI,aH,au,bD⟩)/\aj (∀j,j<k->T j=true));case atStart=>exact⟨0,by omega,rfl,ia,fun j hj=>absurd hj (aD _)⟩
  case round=>
    obtain⟨k,hk,rfl,eh,HT⟩:=hrel;have HK:=ae hk;have iS:k<=az.length:=(by omega)
    clear hk ia;obtain⟨c0,c1,c2,c3,c4,c5,c6,c7⟩:=eh.o.cells;by_cases bt:k<az.length
    . obtain⟨b,o,x,y,z,hA,he,cx,cy,cz,rN,Fk,aM⟩:=(HH.o.keep eh.o.fr).l.one rY.o bt;simp only at hA he;subst hA;have aK:k<Z.size:=(by omega)
      have pR:(k:Int)<(az.length:Int):=(by omega)
      have aT:(k:Int)<(Z.size:Int):=(by omega)
      have yi:=ar.o k x y z he.o;have ab:aj (T k=true->∀j,j<k+1->T j=true):=fun ht j hj=>by
        by_cases e:j=k
        . subst e;exact ht
        . exact HT.o j (by omega)
      have oS:=ae (HF.o k bt);clear he cy Fk rN aM;rcases HB.o k aK with⟨e1,e2⟩ |⟨e1,e2⟩
      all_goals
        rw[e2]at yi;by_cases ad:z=x
        . subst ad;have J:aj (T k=true):=by show _=_;rw[yi];simp
          clear yi;go_wp2;go_roundg (gk-1);case measure=>have :=HK.o;omega
          case rel=>exact⟨k+1,by have :=HK.o;omega,by go_num,eh,ab.o J.o⟩
        . have d1:(z !=x)=true:=(by simpa using ad)
          have d2:(z==x)=false:=(by simpa using ad)
          rw[d2,Bool.false_or]at yi;by_cases aB:z=1
          . subst aB;have J:=ae yi;clear yi;go_wp2_with fail;first
              | (go_roundg (gk-1)
                 case measure=>have :=HK.o;omega
                 case rel=>exact⟨k+1,by have :=HK.o;omega,by go_num,eh,ab.o (by rw[J.o];rfl)⟩)
              | (have hr:=oS.o (by rw[J.o];rfl)
                 subst hr;go_ret;exact⟨rfl,eh.o.fr⟩)
          . have d3:(z==(1:Int))=false:=(by simpa using aB)
            rw[d3]at yi;have J:=ae yi;clear yi;go_wp2_with fail;first
              | (go_roundg (gk-1)
                 case measure=>have :=HK.o;omega
                 case rel=>exact⟨k+1,by have :=HK.o;omega,by go_num,eh,ab.o (by rw[J.o];rfl)⟩)
              | (have hr:=oS.o (by rw[J.o];rfl)
                 subst hr;go_ret;exact⟨rfl,eh.o.fr⟩)
    . obtain rfl :k=az.length:=by omega
      have hr:=HE.o HT.o;subst hr;clear HK;go_wp2;go_ret;exact⟨rfl,eh.o.fr⟩
theorem B8{α:Type}(f g:α->α):∀l:List α,(l.flatMap fun s=>[f s,g s]).length=2*l.length
 |[]=>rfl
 |x::l=>by rw[List.flatMap_cons,an,B8 f g l,b8];simp;omega
theorem B9{α:Type}[Inhabited α](f g:α->α):∀(l:List α)(i:Nat),i<l.length->(l.flatMap fun s=>[f s,g s])[2*i]! =f l[i]! /\(l.flatMap fun s=>[f s,g s])[2*i+1]! =g l[i]!
 |x::l,0,_=>⟨rfl,rfl⟩
 |x::l,i+1,h=>by have h1:=B9 f g l i (by simpa using h);rw[List.flatMap_cons];simp only[aa]at h1⊢;rw[bX (by simp;omega),bX (by simp;omega)];simp only[b8,List.length_nil,cD];rw[show 2*(i+1)-(0+1+1)=2*i by omega,show 2*(i+1)+1-(0+1+1)=2*i+1 by omega];exact h1
theorem Ej(t:List UInt8)(c:UInt8):∀k,k<=t.length->idx (t++[c]) k=idx t k
 |0,_=>rfl
 |k+1,h=>by rw[idx,idx,Ej t c k (by omega)];rw[aa,aa,cV (by omega)]
theorem gJ:∀{n:Nat}{s:List UInt8},s∈bW n->idx s n<(bW n).length/\(bW n)[idx s n]! =s
 |0,s,h=>by
  rw[bW,ag]at h;subst h;exact⟨by simp[bW,idx],rfl⟩
 |n+1,s,h=>by
  rw[bW,cH]at h;obtain⟨t,ht,h⟩:=h;obtain⟨h1,J⟩:=gJ ht;have hl:=im ht;rw[bW,B8];have hp:=B9 (fun s:List UInt8=>s++[48]) (fun s=>s++[49]) (bW n) (idx t n) h1;simp only[ay,bi,or_false]at h;rcases h with rfl |rfl
  ·have e:idx (t++[48]) (n+1)=2*idx t n:=by rw[idx,Ej t 48 n (by omega),aa,bX (by omega),hl,Nat.sub_self];rfl
   rw[e];exact⟨by omega,hp.1.trans (by rw[J])⟩
  ·have e:idx (t++[49]) (n+1)=2*idx t n+1:=by rw[idx,Ej t 49 n (by omega),aa,bX (by omega),hl,Nat.sub_self];rfl
   rw[e];exact⟨by omega,hp.2.trans (by rw[J])⟩
def JE(C:Pc)(i k:Nat):Option Nat:=if k<(bW C.ins.length).length/\tc C (vL C (bW C.az.length)[i]! (bW C.ins.length)[k]!)=true then some (idx (mR C (bW C.az.length)[i]! (bW C.ins.length)[k]!) C.az.length)else none
def FY(C:Pc):List Int:=(bW C.az.length).map fun s=>if rM C s=true then 0 else -1
def qh(C:Pc):List Int:=yw (JE C) (bW C.ins.length).length (bW C.az.length).length (FY C) (bW C.az.length).length
theorem mN{C:Pc}{s i:List UInt8}:fm C [] s i↔i∈bW C.ins.length/\tc C (vL C s i)=true:=
 ⟨fun h=>⟨h.1,h.2.1⟩,fun h=>⟨h.1,h.2,fun l hl=>by cases hl⟩⟩
theorem RO{C:Pc}{am:List (List Int)}{s i:List UInt8}(h:Jo (kf C) (fm C am) (mR C) s)(ha:fm C am s i):Jo (kf C) (fm C am) (mR C) (mR C s i):=by
 obtain⟨n,p,j,J,hw,rfl⟩:=h;refine⟨n+1,fun k=>if k<=n then p k else mR C (p n) i,fun k=>if k<n then j k else i,by simpa using J,⟨fun k hk=> ?_,fun k hk=> ?_⟩,by simp only[show ¬n+1<=n by omega,if_false]⟩
 ·by_cases e:k<n
  ·simp only[show k<=n by omega,e,if_true];exact hw.al k e
  ·obtain rfl :k=n:=by omega
   simp only[aq,da,if_true,if_false];exact ha
 ·by_cases e:k<n
  ·simp only[show k+1<=n by omega,show k<=n by omega,e,if_true];exact hw.DU k e
  ·obtain rfl :k=n:=by omega
   simp only[aq,da,if_true,if_false,show ¬k+1<=k by omega]
theorem tN{C:Pc}(hv:Valid C):(qh C).length=(bW C.az.length).length/\(∀j,j<(bW C.az.length).length->0<=(qh C)[j]! ->Jo (kf C) (fm C []) (mR C) (bW C.az.length)[j]!)/\∀s,s∈bW C.az.length->(0<=(qh C)[idx s C.az.length]! ↔Jo (kf C) (fm C []) (mR C) s):=by
 have ab:∀j:Nat,j<(bW C.az.length).length->(FY C)[j]! =if rM C (bW C.az.length)[j]! =true then 0 else -1:=fun j J=>by unfold FY;rw[ro _ J]
 have hB:=acf (T:=JE C) (K:=(bW C.ins.length).length) (m:=(bW C.az.length).length) (R:=fun j=>Jo (kf C) (fm C []) (mR C) (bW C.az.length)[j]!) (o:=FY C) (by simp[FY])
  (fun j J h=>by
   rw[ab j J]at h;have hi:rM C (bW C.az.length)[j]! =true:=by
    by_cases e:rM C (bW C.az.length)[j]! =true
    ·exact e
    ·rw[qah e]at h;omega
   exact⟨0,fun _=>(bW C.az.length)[j]!,fun _=>[],(zp hv (bk J)).1 hi,⟨fun k hk=>absurd hk (aD _),fun k hk=>absurd hk (aD _)⟩,rfl⟩)
  (fun j J=>by rw[ab j J];split<;>omega)
  (fun i k t hi hR hT=>by
   unfold JE at hT;by_cases e:k<(bW C.ins.length).length/\tc C (vL C (bW C.az.length)[i]! (bW C.ins.length)[k]!)=true
   ·rw[qai e]at hT;cases hT;obtain⟨h1,h2⟩:=gJ (kM C (bW C.az.length)[i]! (bW C.ins.length)[k]!);refine⟨h1,?_⟩;show Jo _ _ _ _;rw[h2];exact RO hR (mN.2 ⟨bk e.1,e.2⟩)
   ·rw[qah e]at hT;cases hT)
 refine⟨hB.1,fun j J h=>hB.2.1 j J h,fun s hs=>⟨fun h=> ?_,?_⟩⟩
 ·obtain⟨h1,h2⟩:=gJ hs;have h3:=hB.2.1 _ h1 h;simp only[h2]at h3;exact h3
 ·rintro⟨n,p,j,h0,hw,rfl⟩;have key:∀k,k<=n->p k∈bW C.az.length/\0<=(qh C)[idx (p k) C.az.length]! :=fun k=>by
   induction k with
   |zero=>
    intro _;obtain⟨h1,h2⟩:=gJ h0.1;refine⟨h0.1,hB.2.2.1 _ ?_⟩;rw[ab _ h1,h2,qai ((zp hv h0.1).2 h0)];exact gE _
   |succ k ih=>
    intro hk;obtain⟨h1,h2⟩:=ih (by omega);obtain⟨h3,h4⟩:=gJ h1;have ha:=mN.1 (hw.al k (by omega));have hn:=hw.DU k (by omega);obtain⟨h5,h6⟩:=gJ ha.1;refine⟨by rw[hn];exact kM C _ _,hB.2.2.2 _ _ _ h3 h2 h5 ?_⟩;unfold JE;rw[h4,h6,qai ⟨h5,ha.2⟩,hn]
  exact(key n (aq _)).2
def lz(T:Nat->Nat->Bool)(o:List Int)(i:Nat)(b:Int):Nat->Int
 |0=>b
 |k+1=>if T i k=true/\(lz T o i b k<0\/o[i]! <lz T o i b k)then o[i]! else lz T o i b k
def mM(T:Nat->Nat->Bool)(K:Nat)(o:List Int):Nat->Int
 |0=> -1
 |i+1=>if 0<=o[i]! then lz T o i (mM T K o i) K else mM T K o i
theorem IC{T:Nat->Nat->Bool}{o:List Int}{i:Nat}{b:Int}(h0:0<=o[i]!):∀k,0<=lz T o i b k↔0<=b\/∃j,j<k/\T i j=true
 |0=>by
  constructor
  ·intro h;exact .inl h
  ·rintro(h |⟨j,hj,_⟩)
   ·exact h
   ·exact absurd hj (aD _)
 |k+1=>by
  have ih:=IC (T:=T) (b:=b) h0 k;rw[lz];by_cases e:T i k=true/\(lz T o i b k<0\/o[i]! <lz T o i b k)
  ·rw[qai e];exact⟨fun _=> .inr ⟨k,by omega,e.1⟩,fun _=>h0⟩
  ·rw[qah e,ih];constructor
   ·rintro(h |⟨j,hj,J⟩)
    ·exact .inl h
    ·exact .inr ⟨j,by omega,J⟩
   ·rintro(h |⟨j,hj,J⟩)
    ·exact .inl h
    ·by_cases ej:j=k
     ·subst ej;have h1:¬(lz T o i b j<0\/o[i]! <lz T o i b j):=fun h=>e ⟨J,h⟩;have h2:0<=lz T o i b j:=(by omega)
      exact ih.1 h2
     ·exact .inr ⟨j,by omega,J⟩
theorem CM{T:Nat->Nat->Bool}{K:Nat}{o:List Int}:∀m,0<=mM T K o m↔∃i,i<m/\0<=o[i]! /\∃k,k<K/\T i k=true
 |0=>by
  constructor
  ·intro h;exact absurd h (show ¬(0:Int)<= -1 by decide)
  ·rintro⟨i,hi,_⟩;exact absurd hi (aD _)
 |m+1=>by
  have ih:=CM (T:=T) (K:=K) (o:=o) m;rw[mM];by_cases e:0<=o[m]!
  ·rw[qai e,IC e,ih];constructor
   ·rintro(⟨i,hi,h⟩ |h)
    ·exact⟨i,by omega,h⟩
    ·exact⟨m,by omega,e,h⟩
   ·rintro⟨i,hi,h1,J⟩;by_cases ei:i=m
    ·subst ei;exact .inr J
    ·exact .inl ⟨i,by omega,h1,J⟩
  ·rw[qah e,ih];constructor
   ·rintro⟨i,hi,h⟩;exact⟨i,by omega,h⟩
   ·rintro⟨i,hi,h1,J⟩;by_cases ei:i=m
    ·subst ei;exact absurd h1 e
    ·exact⟨i,by omega,h1,J⟩
def bdT(C:Pc)(x:Int)(i k:Nat):Bool:=tc C (vL C (bW C.az.length)[i]! (bW C.ins.length)[k]!)&&lJ (vL C (bW C.az.length)[i]! (bW C.ins.length)[k]!) x
def Q1(C:Pc)(x:Int):Int:=mM (bdT C x) (bW C.ins.length).length (qh C) (bW C.az.length).length
theorem acg{C:Pc}(hv:Valid C)(x:Int):0<=Q1 C x↔∃n,AA (kf C) (fm C []) (mR C) (xU C x) n:=by
 obtain⟨-,h1,h2⟩:=tN hv;unfold Q1;rw[CM];constructor
 ·rintro⟨i,hi,ho,k,hk,hT⟩;have hm:=bk hi;obtain⟨h3,h4⟩:=gJ hm;unfold bdT at hT;rw[ax]at hT;have hr:Jo (kf C) (fm C []) (mR C) (bW C.az.length)[i]! :=h1 i hi ho;obtain⟨n,p,j,g0,gw,ge⟩:=hr;have ha:fm C [] (bW C.az.length)[i]! (bW C.ins.length)[k]! :=mN.2 ⟨bk hk,hT.1⟩;refine⟨n,p,fun m=>if m<n then j m else(bW C.ins.length)[k]!,g0,⟨fun m hm=> ?_,fun m hm=> ?_⟩,?_,?_⟩
  ·simp only[hm,if_true];exact gw.al m hm
  ·simp only[hm,if_true];exact gw.DU m hm
  ·simp only[da,if_false];rw[ge];exact ha
  ·simp only[da,if_false];rw[ge];exact hT.2
 ·rintro⟨n,p,j,g0,gw,ga,gb⟩;have hr:Jo (kf C) (fm C []) (mR C) (p n):=⟨n,p,j,g0,gw,rfl⟩
  have hs:=DO hr;obtain⟨h3,h4⟩:=gJ hs;have J:=mN.1 ga;obtain⟨h5,h6⟩:=gJ J.1;refine⟨_,h3,(h2 _ hs).2 hr,_,h5,?_⟩;unfold bdT;rw[h4,h6,J.2,ff];exact gb
theorem Ss:(Tryz.prog.info? 9).map (fun i=>(i.zero,i.size,i.bytes))=some (some (.string ⟨#[]⟩),1,16):=by kernel_rfl
theorem ve{w:World}{ops:Array Oper}{o:Oper}{a:Act}{K:Act->World->Prop}{Q:Exit->Act->World->Prop}{E:Prop}(rA:o.guard=none)(s x:Operand)
  (ho:o.op= .call { callee:= .builtin .append,args:=#[s,x],argTypes:=#[30,30] }) (A:Option Addr) (c:Nat) (l:List (List UInt8)) (n:Nat) (hs:a.eval s= .slice A n c) (hn:n=l.length) (dD:eY w A c l)
  (J:Addr) (m d:Nat) (ms:List (List UInt8)) (hx:a.eval x= .slice (some J) m d) (hm:m=ms.length) (hr:∀j:Nat,j<ms.length->w.cell? (J.add j)=some (sv ms[j]!)) (hlen:l.length+ms.length<=4194304)
  (h:∀A' cap w',eY w' A' cap (l++ms)->Fr (ao A) w w'->(∀k,k∈ao A'->k∈ao A\/k=w.heap.size)->K (a.put o.dst (.slice A' (l.length+ms.length) cap)) w'):
  if Region.wanted o (yielded ops a.tmps)=true then Oper.wp Tryz.prog o a w K Q else E:=by
 have hw:Region.wanted o (yielded ops a.tmps)=true:=by simp[Region.wanted,rA]
 rw[qai hw];subst hn hm;obtain⟨A',cap,w',oz,h2,h3,h4,h5,h6,h7⟩:=ik w 30 o.type 9 (.string ⟨#[]⟩) 1 16 Tryz.underlying30 Ss rfl (by decide) A c l.length (l.map sv) dD J ms.length d (ms.map sv) (by simp) (fun j u hu=>by
  simp only[aZ,Option.map_eq_some_iff]at hu;obtain⟨y,hy,rfl⟩:=hu;have hj:=(mX.1 hy).1;have :=hr j hj;rw[aa,hy]at this;exact this) (fun u hu=>by
  obtain⟨y,_,rfl⟩:=aN.1 hu;rfl) (by unfold maxLen;omega) (by omega)
 unfold Oper.wp execOp;simp only[ho,resolve,invoke,builtin,Sem.run_bind,Sem.run_pure,Result.andThen_ok,List.map_toArray,dJ,fQ,hs,hx,oz];refine h A' cap w' ?_ h3 h4;unfold eY;rw[an,bE];exact h2
theorem eY.cell{w:World}{g c:Nat}{l:List (List UInt8)}(h:eY w (some ⟨g,0,none⟩) c l){j:Nat}(J:j<l.length):w.cell? ⟨g,j,none⟩=some (sv l[j]!):=by rw[World.ownsRow.cellAt h j (by omega)];simp only[aZ,af J,dA,aa,aJ]
theorem eY.pos{w:World}{A:Option Addr}{c:Nat}{l:List (List UInt8)}(h:eY w A c l)(h0:0<l.length):∃g,A=some ⟨g,0,none⟩:=by
 rcases h.2 with⟨_,h2⟩ |⟨g,cap,cur,J,_⟩
 ·omega
 ·simp only[Value.slice.injEq,true_and]at J;exact⟨g,J.1⟩
theorem Ao(n:Nat):(bW n).length=2^n:=by
 induction n with
 |zero=>rfl
 |succ n J=>
  rw[bW,List.length_flatMap];simp only[b8,List.length_nil,List.map_const',List.sum_replicate_nat,J];omega
def QI(l:List (List UInt8))(k:Nat):List (List UInt8):=(l.take k).flatMap fun s=>[s++[48],s++[49]]
theorem R7(l:List (List UInt8))(k:Nat)(h:k<l.length):QI l (k+1)=QI l k++[l[k]! ++[48],l[k]! ++[49]]:=by unfold QI;rw[List.take_succ_eq_append_getElem h,List.flatMap_append,aa,af h];simp
theorem M1(l:List (List UInt8))(k:Nat)(h:k<=l.length):(QI l k).length=2*k:=by unfold QI;rw[List.length_flatMap];simp only[b8,List.length_nil,List.map_const',List.sum_replicate_nat,bz];omega
theorem Wi(l:List (List UInt8)):QI l l.length=l.flatMap fun s=>[s++[48],s++[49]]:=by unfold QI;rw[cN]
theorem J2(W:World)(u v:Value)(t:TypeId):(W.alloc (.cells #[u,v] t)).cell? ⟨W.heap.size,0,none⟩=some u:=(At.new W t #[u,v]).cell 0
theorem J1(W:World)(u v:Value)(t:TypeId):(W.alloc (.cells #[u,v] t)).cell? ⟨W.heap.size,1,none⟩=some v:=(At.new W t #[u,v]).cell 1
theorem Rr{s:List UInt8}{Z:ByteArray}(J:(⟨s.toArray⟩:ByteArray)=Z):Z.size=s.length:=by subst J;simp[ByteArray.size]
theorem MG(s:List UInt8)(c:UInt8):Value.string ((⟨s.toArray⟩:ByteArray)++⟨#[c]⟩)=sv (s++[c]):=by unfold sv;congr 1
theorem kB(w:World)(n:Nat)(hn:n<=4):
  Calls Tryz.prog 13 #[.int .i64 (n:Int)] w fun e w'=>∃A c,e= .returned (.slice A (bW n).length c)/\eY w' A c (bW n)/\(∀k∈ao A,w.heap.size<=k)/\Fr [] w w':=by
 obtain⟨w1,eo⟩:∃W,w.alloc (.cells #[.string ⟨#[]⟩] 9)=W:=⟨_,rfl⟩
 have dZ:aj (Fr [] w w1):=eo▸aR _ _;have Qj:aj (eY w1 (some ⟨w.heap.size,0,none⟩) 1 (bW 0)):=by show eY _ _ _ _;rw[<-eo];exact World.ownsRow_lit w #[.string ⟨#[]⟩] 1 (aU _) (by simp[maxLen]) (by simp)
 have AQ:=ae Ao;go_enter Tryz.func13,Tryz.ntmps13;go_wp2_with fail;clear eo;go_loopg [3,4,5,6] n (fun g x3 x4 x5 x6 wr=>∃(i:Nat)(A:Option Addr)(c:Nat),i+g=n/\x3= .slice A (bW i).length c/\x4= .int .i64 i/\aj (eY wr A c (bW i))/\aj (∀k∈ao A,w.heap.size<=k)/\aj (Fr [] w wr));case atStart=>exact⟨0,_,_,by omega,rfl,rfl,Qj,fun k hk=>by simp[ao]at hk;omega,dZ⟩
 case round=>
  clear Qj dZ;obtain⟨i,A,c,hk,rfl,rfl,HS,VC,HF⟩:=hrel;have HK:=ae hk;have iS:i<=n:=by omega
  clear hk;by_cases bt:i<n
  ·have qJ:(i:Int)<(n:Int):=by omega
   obtain⟨l,nV⟩:∃l,bW i=l:=⟨_,rfl⟩
   have bo:l.length<=16:=by rw[<-nV,AQ.o];exact aE (Nat.pow_le_pow_right (by omega) (by omega:i<=4)) (by decide)
   have pL:aj (bW (i+1)=QI l l.length):=by show _=_;rw[Wi,<-nV];rfl
   have ba:aj (∀s∈l,s.length=i):=fun s hs=>im (nV▸hs);rw[nV]at HS⊢;clear nV;obtain⟨wo,rfl⟩:∃x,x=wr:=⟨_,rfl⟩
   go_wp2_with fail;go_loopg [5,6] l.length (fun g x5 x6 wx=>∃(k:Nat)(J:Option Addr)(c5:Nat),k+g=l.length/\x5= .slice J (QI l k).length c5/\x6= .int .i64 k/\aj (eY wx J c5 (QI l k))/\aj (∀k∈ao J,wo.heap.size<=k)/\aj (Fr [] wo wx));case atStart=>exact⟨0,none,0,by omega,rfl,rfl,World.ownsRow_nil _ 0 _ 1,fun k hk=>by simp[ao]at hk,Fr.refl _ _⟩
   case round=>
    obtain⟨k,J,c5,hk,rfl,rfl,Vy,Qm,js⟩:=hrel;have ab:=ae hk;have a1:k<=l.length:=(by omega)
    clear hk;by_cases ar:k<l.length
    ·have bj:(k:Int)<(l.length:Int):=(by omega)
     have CS:=ae (R7 l k ar);have rz:=M1 l k a1;obtain⟨b,hA⟩:=HS.o.pos (by omega);subst hA;have XA:=ae (js.o.aF (HS.o.cell ar));obtain⟨s,hs⟩:∃s,l[k]! =s:=⟨_,rfl⟩
     rw[hs]at XA CS;have bB:s.length=i:=by rw[<-hs];exact ba.o _ (bk ar)
     obtain⟨Z,hZ⟩:∃Z:ByteArray,(⟨s.toArray⟩:ByteArray)=Z:=⟨_,rfl⟩
     have hz:=Rr hZ;have rQ:¬9223372036854775807<Z.size+1:=(by omega)
     obtain⟨Z0,bb⟩:∃Z0:ByteArray,Z++⟨#[48]⟩=Z0:=⟨_,rfl⟩
     obtain⟨Z1,bg⟩:∃Z1:ByteArray,Z++⟨#[49]⟩=Z1:=⟨_,rfl⟩
     have Q6:aj (Value.string Z0=sv (s++[48])):=by show _=_;rw[<-bb,<-hZ];exact MG s 48
     have Yo:aj (Value.string Z1=sv (s++[49])):=by show _=_;rw[<-bg,<-hZ];exact MG s 49
     have aB:aj (wr.cell? ⟨b,k,none⟩=some (.string Z)):=by show _=_;rw[<-hZ];exact XA
     clear hZ hz;obtain⟨m,hm⟩:∃m,QI l k=m:=⟨_,rfl⟩
     rw[hm]at Vy CS rz⊢;clear hs hm XA;go_upto_region 9 with fail;refine qan ?_;refine bw (fun w':World=>Fr [] wr w') 12 (by kernel_rfl) ((Fr.refl _ wr).drew) (fun dy=> ?_);refine oI 11 [(0,[]),(1,[]),(2,[]),(3,[]),(4,[4,5,11,12]),(5,[]),(6,[]),(7,[]),(8,[]),(9,[9,10,11,12]),(10,[])] dy (fun w bT=>bT.aF aB.o) ?_;intro dy;refine R2 11 dy fun K hK aM=> ?_
     (have ad:=ae aM;go_simp)
     refine hK.out _ _ (.inr ?_) (fun jO=> ?_)
     ·first |exact aM.alloc _ |exact aM
     clear hK K;try simp only[Act.put,q5,q6,q7]
     refine R2 12 jO fun K hK aM=> ?_
     (refine ve rfl _ _ rfl J c5 m (2*k) rfl rz.symm ((Vy.o.keep ad.o).keep (aR _ _)) _ 2 2 [s++[48],s++[49]] rfl rfl ?K5 (by simp;omega) ?_;(case K5=>intro j hj;match j,hj with |0,_=>(show _=some (sv (s++[48]));rw[<-Q6.o,dQ];exact J2 _ _ _ _) |1,_=>(show _=some (sv (s++[49]));rw[<-Yo.o,dQ];exact J1 _ _ _ _));intro A7 c7 w7 AJ jg ZD)
     refine hK.out _ _ (.inl rfl) (fun oE=> ?_);clear hK K;try simp only[Act.put,q5,q6,q7]
     refine R1 (i:=13) (o:= ?akE) (by kernel_rfl) (by rfl) ?_;intro K hK;go_simp;refine hK.out _ _ (.inl rfl) (fun mU=> ?_);clear hK K;try simp only[Act.put,q5,q6,q7]
     refine fO ?_;have Mk:aj (eY w7 A7 c7 (QI l (k+1))):=by show eY _ _ _ _;rw[CS.o];exact AJ
     have mP:aj (Fr [] wo w7):=((js.o.ak ad.o).alloc _).trans jg (fun x hx=> .inr (Qm.o x hx));have aT:aj (∀x∈ao A7,wo.heap.size<=x):=fun x hx=>by
      rcases ZD x hx with h |h
      ·exact Qm.o x h
      ·rw[h];have :=js.o.size;have :=ad.o.size;simp at *;omega
     clear AJ jg ZD;go_wp2;go_roundg (gk-1);case measure=>have :=ab.o;omega
     case rel=>exact⟨k+1,A7,c7,by have :=ab.o;omega,by simp[M1 l (k+1) (by omega)];omega,by go_num,Mk,aT,mP⟩
    ·obtain rfl :k=l.length:=by omega
     have Q7:aj (eY wr J c5 (bW (i+1))):=by show eY _ _ _ _;rw[pL.o];exact Vy.o
     have fC:=ae (HF.o.ak js.o);have aK:aj (∀k∈ao J,w.heap.size<=k):=fun k hk=>aE HF.o.size (Qm.o k hk);clear ab Vy js Qm;go_wp2;go_roundg (n-(i+1));case measure=>have :=HK.o;omega
     case rel=>exact⟨i+1,J,c5,by have :=HK.o;omega,by rw[pL.o],by go_num,Q7,aK,fC⟩
  ·obtain rfl :i=n:=by omega
   clear HK;go_wp2;go_ret;exact⟨A,c,rfl,HS.o,VC.o,HF.o⟩
end Go.Proofs.YtpjbaobgnhjgoaaGreat
