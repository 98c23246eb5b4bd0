/- Parts of a proof. -/
import Derived.Test.YtjmmpfjcpdepjaaGreatDoorGAG
set_option linter.unusedVariables false
set_option linter.unusedSimpArgs false
namespace Go.Proofs.YtjmmpfjcpdepjaaGreatDoor
open Go.RowKit
def LdP (S1:Sv)(l:List Int)(ct:Int)(L:aO)(w:World)(e:Ending)(w':World):Prop:=
 ∃(A':Option Addr) (c':Nat),e= .returned (.tuple #[.slice A' l.length c', .int .i64 ct])/\∃L',aX w' L' S1/\L.ext L' w/\Ints w' A' c' l/\(∀k,k∈ak A'->w.heap.size<=k/\(L'.cY k).1≠L'.id)/\Fr (L.own w) w w'
set_option maxRecDepth 100000 in
set_option maxHeartbeats 16000000 in
theorem y8 (w:World)(L:aO)(S:Sv)(h:aX w L S)(m:Nat)(ok:S.Ok m)(n:Nat)(hn:n<S.list.length)(S1:Sv)(l:List Int)(ct:Int)(fM:S.fL n=some (S1,l,ct)):
  Calls Tryz.prog 168 #[.pointer (some ⟨L.a,0,none⟩), .int .i64 n] w (LdP S1 l ct L w):=by
 have lx:=ok.vl;have qh:=ok.ll;have hNl:=ok.ic;obtain⟨GE,xe,Ni,FN,hl,Ia⟩:∃(GE:Sv.Gr) (xe:Int),Sv.eR (S.T.lits.length+1) ⟨S,[],0,[0]⟩ n 0 S.T.lits.reverse=some (GE,xe)/\GE.S=S1/\
   (Sv.second GE.S.T (GE.bt.set 0 (-xe)).length 1 (GE.bt.set 0 (-xe)) 0).1=l/\(Sv.second GE.S.T (GE.bt.set 0 (-xe)).length 1 (GE.bt.set 0 (-xe)) 0).2=ct:=by
  unfold Sv.fL at fM;cases hq:Sv.eR (S.T.lits.length+1) ⟨S,[],0,[0]⟩ n 0 S.T.lits.reverse with
  |none=>rw[hq]at fM;cases fM
  |some q=>
   obtain⟨G,x⟩:=q;rw[hq]at fM;simp only[Option.some.injEq,Prod.mk.injEq]at fM;exact⟨G,x,rfl,fM.1,fM.2.1,fM.2.2⟩
 have pB:=aa Ni;have NX:=aa FN;have HL:=aa hl;have WC:=aa Ia;have lz:=aa ok;have FV:=aa (iw.new h);have agb:Hid (Sv.nY S m ⟨S,[],0,[0]⟩):=⟨rfl,rfl,rfl,rfl,ok,fun x hx=>by simp at hx;subst hx;omega,by simp⟩
 have HE0:=aa (L.mI w);have Fx:Hid (Fr [] w (((w.alloc (.map #[] 0)).alloc (.cells #[.int .i64 0] 3)).alloc (.cells #[.pointer (some ⟨L.a,0,none⟩), .map (some w.heap.size), .int .i64 0, .slice (some ⟨w.heap.size+1,0,none⟩) 1 1] 223))):=(((Fr.refl [] w).alloc _).alloc _).alloc _;have c0:=Fx.out.aN h.cells.1;have yD:=@run_makeMap Tryz.prog;have KL:=aa (kQ _ L.tL S.T (h.tr.fr Fx.out (by simp)));have dP:IntKind.i64.wrap ((S.T.lits.length:Int)-1)=(S.T.lits.length:Int)-1:=IntWalk.i64_in _ (by omega);clear Ni FN hl Ia fM h ok;go_enter Tryz.func168,Tryz.ntmps168;go_wp2_with fail;refine KL.out.mono ?_;clear KL;rintro e w1 ⟨rfl,hw⟩;obtain⟨W1,jO⟩:∃W1,W1=w1:=⟨_,rfl⟩
 rw[hw]at FV Fx;have hSZ:w.heap.size+1<w1.heap.size:=by rw[<-hw];simp
 clear hw yD c0 jO W1;go_wp2_with fail;clear dP;go_loopg [1,7,8] (S.T.lits.length+1) (fun g x1 x7 x8 wr=>∃(G1:Sv.Gr) (n1 sk:Int) (j:Nat) (L1:aO) (X1:ma) (nm:Nat),x1= .int .i64 n1/\x7= .int .i64 sk/\x8= .int .i64 ((j:Int)-1)/\j<=S.T.lits.length/\ -1<=n1/\n1<S.list.length/\ -(S.vars:Int)<=sk/\sk<=S.vars/\
   Hid (Sv.eR g G1 n1 sk (S.T.lits.take j).reverse=some (GE,xe))/\Hid (iw wr L1 X1 nm G1)/\Hid (Sv.nY S m G1)/\Hid (nm+1048577*g<=300000000000/\G1.bt.length+1048577*g<=300000000001/\G1.fP+1048577*(g:Int)<=300000000000/\(g:Int)-262145<=G1.fP)/\
   Hid (X1.gb=w.heap.size+1+1)/\Hid (∀k,k∈X1.own->w.heap.size<=k)/\Hid (L.ext L1 w)/\Hid (Fr (L.own w) w wr))
 case atStart=>exact⟨⟨S,[],0,[0]⟩,n,0,S.T.lits.length,L.shut w,_,0,rfl,rfl,rfl,ap _,by omega,by omega,by omega,by omega,by rw[cN];exact pB.out,FV.out,agb.out,⟨by omega,by simp;omega,by simp;omega,by simp;omega⟩,rfl,fun k hk=>by simp[ma.own,ak]at hk;omega,HE0.out,Fx.out.mono (fun k hk=>by cases hk)⟩
 case round=>
  obtain⟨G1,n1,sk,j,L1,X1,nm,rfl,rfl,rfl,hj,ke,qE,ar4,ar3,HR,HB,HN,OT,NP,OI,HE,HF⟩:=hrel;obtain⟨f,rfl⟩:∃f,gk=f+1:=⟨gk-1,by
   rcases gk with _ |g
   ·exact absurd HR.out (by rw[Sv.iO];simp)
   ·omega⟩
  have tf:Hid (Sv.dV f (Sv.dA G1 n1 sk) (S.T.lits.take j).reverse=some (GE,xe)):=by rw[<-Sv.jz];exact HR.out
  clear HR pB FV agb HE0 Fx;by_cases hp:0<=n1
  ·obtain⟨nn,rfl⟩:∃nn:Nat,n1=nn:=⟨n1.toNat,by omega⟩
   have yB:nn<S.list.length:=by omega
   have sl:nn<L1.cs.length:=by rw[HB.out.sv.ot,HN.out.len];exact yB
   obtain⟨gc,jv,x0,x1,x2⟩:=HB.out.sv.qz sl;have eE:=HB.out.sv.qC sl;obtain⟨tN,-⟩:=HB.out.sv.act sl jv G1.S.used;have pF:=aa (HB.out.act sl jv G1.S.used);have yG:(L1.cs.set nn { L1.cs[nn]! with act:=(G1.S.used:Int) })[nn]! ={ L1.cs[nn]! with act:=(G1.S.used:Int) }:=by rw[ef,aae ⟨rfl,sl⟩]
   obtain⟨⟨A,c,ls,b,ac⟩,hx⟩:∃x,L1.cs[nn]! =x:=⟨_,rfl⟩
   rw[hx]at x0 eE yG pF;simp only[Cw.rc]at x0 eE pF;have HCS:=aa yG;have aga:=aa (HN.out.gK nn);have qF:(G1.S.rc nn).lits=ls:=by rw[eE]
   have zI:Hid (L1.a=L.a):=HE.out.1;obtain⟨c0,-,-,c3,-,-,-,-,-,c9,-⟩:=HB.out.sv.cells;rw[zI.out]at c0 c3 c9;rw[jv]at c3;have Eu:L1.cs.length=S.list.length:=by rw[HB.out.sv.ot,HN.out.len]
   rw[Eu]at c3;obtain⟨-,-,-,d3,-⟩:=pF.out.sv.cells;simp only[ao]at d3;rw[zI.out,jv,Eu]at d3;have y0:((wr.setCell ⟨gc,nn*3+2,none⟩ (.int .i64 G1.S.used)).drew).cell? ⟨gc,nn*3,none⟩=some (.slice A ls.length c):=by
    have ZC:nn<(L1.cs.set nn { A:=A,c:=c,lits:=ls,jr:=b,act:=(G1.S.used:Int) }).length:=by rw[ao];exact sl
    obtain⟨g',pU,z0,-,-⟩:=pF.out.sv.qz ZC;rw[jv]at pU;obtain rfl :gc=g':=by simpa using pU
    rw[yG]at z0;exact z0
   have HRW:Hid (Ints (wr.setCell ⟨gc,nn*3+2,none⟩ (.int .i64 G1.S.used)).drew A c ls):=by
    have ZC:nn<(L1.cs.set nn { A:=A,c:=c,lits:=ls,jr:=b,act:=(G1.S.used:Int) }).length:=by rw[ao];exact sl
    have :=pF.out.sv.ql nn ZC;rw[yG]at this;exact this
   have HL8:Hid (∀k,k∈ak A->(L1.cY k).1=L1.id):=fun k hk=>by have :=HB.out.sv.t8 nn sl k (by rw[hx];exact hk);rw[this]
   have HT8:Hid (∀k,k∈ak A->L1.cY k=(L1.id,8,nn)):=fun k hk=>HB.out.sv.t8 nn sl k (by rw[hx];exact hk);have HLB:Hid (ls.length<=1048576):=by have :=HN.out.ok.lb nn;rw[qF]at this;exact this
   have sV:Hid (∀x∈ls,-(S.vars:Int)<=x/\x<=S.vars):=fun x hx=>by have :=HN.out.ok.lr nn x (by rw[qF];exact hx);rw[HN.out.vars]at this;exact this.2
   have CZ:Hid (Sv.dA G1 nn sk=Sv.meets sk ls { G1 with S:=G1.S.gK nn }):=by show _=_;unfold Sv.dA;rw[aae (by omega),Int.toNat_natCast,qF]
   have cw:Hid (Fr (L.own w) w (wr.setCell ⟨gc,nn*3+2,none⟩ (.int .i64 G1.S.used)).drew):=(HF.out.setCell (by
    rcases bv gc w.heap.size with hl |hl
    ·left
     rw[aO.bT];exact⟨hl,HE.out.2.2 gc hl (by rw[HB.out.sv.t3 gc (by rw[jv];simp[ak])];exact HE.out.2.1)⟩
    ·exact .inr hl) _).drew
   have HGB:Hid (∀k,k∈X1.own->w.heap.size<=k):=OI.out;clear yG eE hx qF jv Eu;go_wp2_with fail;go_region;obtain⟨W2,XK⟩:∃W,(wr.setCell ⟨gc,nn*3+2,none⟩ (.int .i64 G1.S.used)).drew=W:=⟨_,rfl⟩
   rw[XK]at pF d3 y0 HRW cw⊢;have c0':=pF.out.sv.cells.1;clear XK c0 c3 c9 x0 x1 x2 tN HB;go_wp2_with fail;clear d3 y0 c0';obtain⟨L2,hL2⟩:∃L2,{ L1 with cs:=L1.cs.set nn { A:=A,c:=c,lits:=ls,jr:=b,act:=(G1.S.used:Int) } }=L2:=⟨_,rfl⟩
   have xn:L2.cY=L1.cY/\L2.id=L1.id/\L2.a=L1.a/\L2.hL=L1.hL:=by rw[<-hL2];exact⟨rfl,rfl,rfl,rfl⟩
   have mw:=aa xn;rw[hL2]at pF;have dn:Hid (L.ext L2 w):=⟨xn.2.2.1.trans HE.out.1,xn.2.1.trans HE.out.2.1,fun k hk e=>HE.out.2.2 k hk (by rw[<-xn.1];exact e)⟩
   have HRF:Hid (∀k,k∈ak A->L2.cY k=(L2.id,8,nn)):=fun k hk=>by rw[xn.1,xn.2.1];exact HT8.out k hk
   have HGS:Hid (({ G1 with S:=G1.S.gK nn }:Sv.Gr)={ G1 with S:={ G1.S with list:=G1.S.list.set nn { G1.S.rc nn with act:=G1.S.used } } }):=rfl;clear hL2 xn HL8 HT8 HCS HE HF;go_loopg [46] ls.length (fun g2 x46 wi=>∃(k:Nat) (Gk:Sv.Gr) (Xk:ma) (nk:Nat),k+g2=ls.length/\x46= .int .i64 k/\Hid (Sv.meets sk (ls.drop k) Gk=Sv.dA G1 nn sk)/\Hid (iw wi L2 Xk nk Gk)/\Hid (Sv.nY S m Gk)/\Hid (nk<=nm+k/\Gk.bt.length<=G1.bt.length+k/\Gk.fP<=G1.fP+k/\G1.fP<=Gk.fP)/\
     Hid (Xk.gb=w.heap.size+1+1)/\Hid (∀k,k∈Xk.own->w.heap.size<=k)/\Hid (Ints wi A c ls)/\Hid (Fr (L.own w) w wi))
   case atStart=>exact⟨0,{ G1 with S:=G1.S.gK nn },X1,nm,by omega,rfl,CZ.out.symm,HGS.out▸pF.out,aga.out,⟨by omega,by simp,by simp,by simp⟩,NP.out,HGB.out,HRW.out,cw.out⟩
   case round=>
    obtain⟨k,Gk,Xk,nk,hk,rfl,HM,Yj,Jj,FB,yn,vf,HIk,HFk⟩:=hrel;have HK:=aa hk;have oJ:k<=ls.length:=(by omega)
    have yE:=HLB.out;clear hk;by_cases bw:k<ls.length
    ·obtain⟨ga,hA,uy⟩:=HIk.out.pos bw;subst hA;have cy:=HIk.out.cell bw;obtain⟨y,hy⟩:∃y,ls[k]! =y:=⟨_,rfl⟩
     rw[hy]at cy;have D7:=sV.out y (by rw[<-hy];exact get_mem bw);have u0:ls.drop k=y::ls.drop (k+1):=by rw[List.drop_eq_getElem_cons bw,<-hy];simp only[ae,af bw,ay]
     have TC:=aa u0;obtain⟨adq,adp⟩:=D7;clear u0 hy uy;by_cases Kd:y=sk
     ·have hd:(y==sk)=true:=(by simp[Kd])
      have Jk:Hid (Sv.meets sk (ls.drop (k+1)) Gk=Sv.dA G1 nn sk):=by have :=HM.out;rw[TC.out,Sv.meets,aac (fun h=>h Kd)]at this;exact this
      clear Kd;go_wp2_with fail;go_roundg (ls.length-(k+1));case measure=>have :=HK.out;omega
      case rel=>exact⟨k+1,Gk,Xk,nk,by have :=HK.out;omega,by go_num,Jk.out,Yj.out,Jj.out,(by have :=FB.out;exact⟨by omega,by omega,by omega,by omega⟩),yn.out,vf.out,HIk.out,HFk.out⟩
     ·have hd:(y==sk)=false:=(by simp[Kd])
      have Jk:Hid (Sv.meets sk (ls.drop (k+1)) (Sv.meet Gk y)=Sv.dA G1 nn sk):=by have :=HM.out;rw[TC.out,Sv.meets,aae Kd]at this;exact this
      have KM:=aa (Gz wr L2 Xk nk Gk Yj.out m Jj.out.ok y (by rw[Jj.out.vars];exact adq) (by rw[Jj.out.vars];exact adp) (by have :=FB.out;have :=OT.out;unfold maxLen;omega) (by have :=FB.out;have :=OT.out;omega) (by have :=FB.out;have :=OT.out;omega) (by have :=FB.out;have :=OT.out;omega));rw[yn.out]at KM;clear Kd;go_wp2_with fail;refine KM.out.mono ?_;clear KM cy;rintro e wj ⟨rfl,Xj,nj,hbj,hnj,hgj,hmj,haj,hfj⟩;have HBj:=aa hbj;have HNj:=aa (Jj.out.meet ⟨adq,adp⟩);have vD:=Sv.Ag Gk y;have anL:Hid (nj<=nm+(k+1)/\(Sv.meet Gk y).bt.length<=G1.bt.length+(k+1)/\(Sv.meet Gk y).fP<=G1.fP+((k+1:Nat):Int)/\G1.fP<=(Sv.meet Gk y).fP):=by have :=FB.out;exact⟨by omega,by omega,by omega,by omega⟩
      have hz:w.heap.size<=wr.heap.size:=HFk.out.size;have amk:Hid (∀k,k∈Xj.own->w.heap.size<=k):=fun q hq=>by
       simp only[ma.own,av]at hq;rcases hq with rfl |rfl |hq
       ·exact vf.out _ (by simp[ma.own,hgj])
       ·exact vf.out _ (by simp[ma.own,hmj])
       ·rcases haj q hq with h5 |h5
        ·exact vf.out _ (by simp[ma.own,h5])
        ·omega
      have amm:Hid (Xj.gb=w.heap.size+1+1):=hgj.trans yn.out;have HFj:=aa (Yj.out.YD dn.out HFk.out vf.out hfj);have HIj:Hid (Ints wj (some ⟨ga,0,none⟩) c ls):=HIk.out.fr hfj (fun q hq hm=>by
       have h5:=HRF.out q hq;rcases ah.1 hm with h6 |h6
       ·exact Yj.out.gN q h6 (by rw[h5])
       ·have h7:=Yj.out.sv.t2 q h6;rw[h5]at h7;simp at h7)
      clear hbj hnj hgj hmj haj hfj vD hz;go_wp2_with fail;go_roundg (ls.length-(k+1));case measure=>have :=HK.out;omega
      case rel=>exact⟨k+1,Sv.meet Gk y,Xj,nj,by have :=HK.out;omega,by go_num,Jk.out,HBj.out,HNj.out,anL.out,amm.out,amk.out,HIj.out,HFj.out⟩
    ·obtain rfl :k=ls.length:=by omega
     have HG5:Hid (Gk=Sv.dA G1 nn sk):=by have :=HM.out;rw[List.drop_length]at this;exact this
     have Fp:Hid (Sv.dV f Gk (S.T.lits.take j).reverse=some (GE,xe)):=by rw[HG5.out];exact tf.out
     have FC:Hid (nk+1048577*f<=300000000000/\Gk.bt.length+1048577*f<=300000000001/\Gk.fP+1048577*(f:Int)<=300000000000/\(f:Int)-262144<=Gk.fP):=by have :=FB.out;have :=OT.out;have :=HLB.out;exact⟨by omega,by omega,by omega,by omega⟩
     clear HM tf HG5 FB OT HLB HIk HRF HRW CZ HK yE;obtain⟨G5,hG5⟩:∃G5,G5=Gk:=⟨_,rfl⟩
     obtain⟨X5,hX5⟩:∃X5,X5=Xk:=⟨_,rfl⟩
     rw[<-hG5]at Fp FC Yj Jj;rw[<-hX5]at Yj yn vf;clear hG5 hX5 cw aga pF HGS mw;go_wp2_with fail;go_loopg [8] j (fun g3 x8 wt=>g3<=j/\x8= .int .i64 ((g3:Int)-1)/\Hid (Sv.dV f G5 (S.T.lits.take g3).reverse=some (GE,xe))/\Hid (Fr [] wr wt));case atStart=>exact⟨ap _,rfl,Fp.out,Fr.refl _ _⟩
     case round=>
      obtain⟨xp,rfl,Jh,jo⟩:=hrel;obtain⟨i,hi⟩:∃i,gk=i+1:=⟨gk-1,by
       rcases gk with _ |g
       ·exact absurd Jh.out (by simp[Sv.wW])
       ·omega⟩
      subst hi;have m7:i<S.T.lits.length:=(by omega)
      obtain⟨fN,gd,BP,P9,hx5⟩:=lz.out.pK m7;obtain⟨x,hx⟩:∃x,S.T.lits[i]! =x:=⟨_,rfl⟩
      rw[hx]at fN gd BP P9 hx5;have HX:=aa hx;obtain⟨rF,nO⟩:=wR BP P9 lx;obtain⟨v,hv⟩:∃v,tv x=v:=⟨_,rfl⟩
      rw[hv]at rF fN gd;have HV:=aa hv;have m8:((i+1:Nat):Int)-1=(i:Int):=(by omega)
      have zE:Hid (Sv.dV f G5 (x::(S.T.lits.take i).reverse)=some (GE,xe)):=by have :=Jh.out;rw[rW m7,HX.out]at this;exact this
      rw[m8];have AN:=aa (Yj.out.keep jo.out);have c0:=AN.out.sv.cells.1;have g1:=AN.out.obj.cell 1;simp only[cU,cM,co]at g1;rw[dn.out.1]at c0;rw[yn.out]at g1;have e0:=Ext.cell c0;have e1:=Ext.cell g1;have KA:=aa (fun u:Ext wr=>kU u.v L2.tL G5.S.T (AN.out.sv.tr.fr u.fr (by simp)) (i:Int));simp only[Jj.out.T,qa m7,HX.out]at KA;have jZ:∀u:Ext wr,(Instr.lookup 221 (.map (some X5.bm)) (.int .i64 v) false).run Tryz.prog u.v= .ok (.bool (decide (v∈G5.seen))) u.v:=fun u=>(AN.out.sn.keep u.fr).look ⟨by omega,by omega⟩;clear Jh hx hv m8;by_cases vB:v∈G5.seen
      ·have sq:decide (v∈G5.seen)=true:=aai vB;rw[sq]at jZ;have X7:=aa vB;clear vB sq;go_wp2_with fail;refine au (by kernel_rfl) (by kernel_rfl) ?_;repeat (go_big_quiet_step (exact bh (KA.out _)))
       refine aak ?_;rintro w7 ⟨u2,b8⟩;have pD:Hid (Fr [] wr w7):=b8▸u2.fr;clear b8 u2;clear e0 e1 c0 g1 jZ;have Jt:=aa (AN.out.keep pD.out);have rL:Hid (Fr (L.own w) w w7):=HFk.out.ag ((jo.out.ag pD.out).mono (fun k hk=>by cases hk));clear jo AN pD KA;have c0:=Jt.out.sv.cells.1;rw[dn.out.1]at c0;have KA:=aa (kU w7 L2.tL G5.S.T Jt.out.sv.tr (i:Int));rw[Jj.out.T,qa m7,HX.out]at KA;have KR:=aa (kw w7 L2.tL G5.S.T Jt.out.sv.tr v);obtain⟨rv,kE⟩:∃rv,G5.S.T.fy v=rv:=⟨_,rfl⟩
       rw[kE]at KR;have HRV:=aa kE;have iy:0<=rv/\rv<=S.list.length:=by have :=Jj.out.ok.rs v;rw[kE,Jj.out.len]at this;exact this
       obtain⟨akm,akl⟩:=iy;have oG:IntKind.i64.wrap (rv-1)=rv-1:=IntWalk.i64_in _ (by omega);have g2:=Jt.out.obj.cell 2;have fz:=Jt.out.obj.frozen 2;simp only[cU,cM,co]at g2;rw[yn.out]at g2 fz;obtain⟨op,Ol⟩:∃op,G5.fP=op:=⟨_,rfl⟩
       rw[Ol]at g2;have Om: -262145<=op/\op<=300000000000:=by have :=FC.out;omega
       obtain⟨akt,aks⟩:=Om;have vz:IntKind.i64.wrap (op-1)=op-1:=IntWalk.i64_in _ (by omega);have Ji:=aa Ol;have FD:=Jt.out.YG (op-1);rw[yn.out]at FD;have FD:=aa FD;have WK:Hid (Fr (L.own w) w (w7.setCell ⟨w.heap.size+1+1,2,none⟩ (.int .i64 (op-1)))):=rL.out.setCell (.inr (by simp only;omega)) _;clear kE Ol;go_wp2_with fail;refine KA.out.mono ?_;clear KA;rintro e w8 ⟨rfl,rfl⟩;go_wp2_with fail;refine KR.out.mono ?_;clear KR;rintro e w8 ⟨rfl,rfl⟩;by_cases hz:op-1=0
       ·have hd:((op-1)==(0:Int))=true:=(by simp[hz])
        have SJ:Hid (({ G5 with fP:=op-1 }:Sv.Gr)=GE/\x=xe):=by have :=zE.out;rw[Sv.wX (by rw[HV.out];exact X7.out) (by rw[Ji.out];exact hz),Ji.out]at this;show _/\_;simpa using this
        have WD:=Jj.out.l0;obtain⟨ga,pu,Vu⟩:=Jt.out.ln.pos WD;have g3:=FD.out.obj.cell 3;simp only[cU,cM,co]at g3;rw[yn.out,pu]at g3;have ca:=FD.out.ln;rw[pu]at ca;have ca0:=ca.cell WD;have fa0:=ca.frozen 0;have ZQ:0<G5.bt.length:=WD;have vn:=aa (FD.out.eI pu (-x));have yO:Hid (Fr (L.own w) w ((w7.setCell ⟨w.heap.size+1+1,2,none⟩ (.int .i64 (op-1))).setCell ⟨ga,0,none⟩ (.int .i64 (-x)))):=WK.out.setCell (.inr (vf.out ga (by simp[ma.own,pu,ak]))) _;have rK:=aa pu;have abf:Hid (∀y∈G5.bt.set 0 (-x),-(S.vars:Int)<=y/\y<=S.vars):=fun y hy=>by
         rcases List.mem_or_eq_of_mem_set hy with h5 |h5
         ·exact Jj.out.lr y h5
         ·rw[h5];omega
        obtain⟨lg,Hz⟩:∃lg,G5.bt.length=lg:=⟨_,rfl⟩
        have vQ:=aa Hz;rw[Hz]at g3 ZQ;clear hz pu Vu ca WD Hz c0;go_wp2_with fail;obtain⟨w9,uU⟩:∃w9,(w7.setCell ⟨w.heap.size+1+1,2,none⟩ (.int .i64 (op-1))).setCell ⟨ga,0,none⟩ (.int .i64 (-x))=w9:=⟨_,rfl⟩
        rw[uU]at vn yO⊢;have g3:=vn.out.obj.cell 3;simp only[cU,cM,co]at g3;rw[yn.out,rK.out,ao,vQ.out]at g3;have oP:=aa g3;have KS:=aa (fun W (hW:Fr [] w9 W)=>rS W L2 G5.S (vn.out.keep hW).sv m Jj.out.ok X5.A X5.c (G5.bt.set 0 (-x)) (vn.out.keep hW).ln vn.out.f3 (by rw[Jj.out.vars];exact abf.out) (by rw[ao];have :=FC.out;omega));rw[rK.out,dn.out.1,ao,vQ.out]at KS;have Sk:Hid (w.heap.size+1+1∉ak (some (⟨ga,0,none⟩:Addr))):=by show ¬_;intro hk;have :=(vn.out.d3 _ (by rw[rK.out];exact hk)).1;exact this yn.out.symm
        clear uU ca0 fa0 g2 fz oG vz FD WK;clear g3;refine aam ?_;refine bi (fun w':World=>Fr [] w9 w') 9 (by kernel_rfl) ((Fr.refl [] w9).drew) (fun cZ=> ?_);apply TB 8 [(0,[]),(1,[]),(2,[]),(4,[]),(5,[]),(6,[]),(7,[]),(8,[8,9])];kernel_rfl;rfl;· (repeat (apply eH;rfl;rfl;(· intro w bl;(try(have bl:=bl.resolve_left (aF _ _);(have s3:=bl.aN oP.out)));go_simp<;>with_reducible rfl);try simp only[Act.put,q5,q6,q7]));exact eG
        exact cZ;intro cZ;have aw:=cZ.resolve_left (by decide);refine bJ (rs:=[3,9]) (by kernel_rfl) (by simp) ?_;refine aZ.cons (o:= ?ac6) ?MU ?BR ?_;case MU=>rfl
        case BR=>
         intro K hK;first | (have s3:=aw.aN oP.out;go_simp) |go_simp
         refine hK.out _ _ (.inr ?_) (fun OA=> ?_)
         ·exact aw
         clear hK K;try simp only[Act.put,q5,q6,q7]
         refine R2 9 (by kernel_rfl) (by rfl) OA fun K hK aw=> ?_
         (go_simp;refine(KS.out _ aw).mono ?_;rintro e w5 ⟨rfl,ze,ev⟩;have g3':=ev.bK Sk.out (aw.aN oP.out);have Jn:=aa ze;have Ju:=aa ((vn.out.keep aw).sv.fr ev (fun k hk _=>vn.out.f3 k (by rw[rK.out];exact hk)));have yu:Hid (Fr (L.own w) w w5):=(yO.out.ag (aw.mono (fun k hk=>by cases hk))).trans ev (fun k hk=> .inr (vf.out k (by rw[<-rK.out]at hk;simp[ma.own,hk])));have Wq:Hid ((Sv.second G5.S.T lg 1 (G5.bt.set 0 (-x)) 0).1.length=lg):=(by rw[gu,ao];exact vQ.out);clear ze ev;dsimp only)
         refine hK.out _ _ (.inl rfl) (fun js=> ?_);clear hK K;try simp only[Act.put,q5,q6,q7]
         refine R1 (i:=10) (o:= ?ac5) (by kernel_rfl) (by rfl) ?_;intro K hK;go_simp;refine hK.out _ _ (.inl rfl) (fun fo=> ?_);clear hK K;try simp only[Act.put,q5,q6,q7]
         refine R1 (i:=11) (o:= ?ac4) (by kernel_rfl) (by rfl) ?_;intro K hK;go_simp;refine hK.out _ _ (.inl rfl) (fun jh=> ?_);clear hK K;try simp only[Act.put,q5,q6,q7]
         refine aD (by kernel_rfl) ?_ _;refine NoPanic.normal ?_;have FF:Hid (LdP S1 l ct L w (.returned (.tuple #[.slice (some ⟨ga,0,none⟩) lg X5.c, .int .i64 (Sv.second G5.S.T lg 1 (G5.bt.set 0 (-x)) 0).2])) w5):=by
          obtain⟨h5,h6⟩:=SJ.out;have hz9:w.heap.size<=w9.heap.size:=yO.out.size;have e1:(GE.bt.set 0 (-xe)).length=lg:=by rw[<-h5,ao];exact vQ.out
          have e2:Sv.second GE.S.T (GE.bt.set 0 (-xe)).length 1 (GE.bt.set 0 (-xe)) 0=Sv.second G5.S.T lg 1 (G5.bt.set 0 (-x)) 0:=(by rw[e1,<-h5,h6])
          have e3:l.length=lg:=by rw[<-HL.out,e2];exact Wq.out
          refine⟨some ⟨ga,0,none⟩,X5.c,?_,L2,?_,dn.out,?_,fun k hk=> ?_,?_⟩
          ·rw[e3,<-WC.out,e2]
          ·rw[<-NX.out,<-h5];exact Ju.out
          ·rw[<-HL.out,e2];exact Jn.out
          ·exact⟨vf.out k (by rw[<-rK.out]at hk;simp[ma.own,hk]),vn.out.f3 k (by rw[rK.out];exact hk)⟩
          ·exact yu.out
         go_wp2_with fail;go_ret2;exact FF.out
        refine aZ.cons (o:= ?ac3) ?MT ?UD aZ.nil;case MT=>rfl
        intro K hK
        (go_simp;refine(KS.out _ aw).mono ?_;rintro e w5 ⟨rfl,ze,ev⟩;have g3':=ev.bK Sk.out (aw.aN oP.out);have Jn:=aa ze;have Ju:=aa ((vn.out.keep aw).sv.fr ev (fun k hk _=>vn.out.f3 k (by rw[rK.out];exact hk)));have yu:Hid (Fr (L.own w) w w5):=(yO.out.ag (aw.mono (fun k hk=>by cases hk))).trans ev (fun k hk=> .inr (vf.out k (by rw[<-rK.out]at hk;simp[ma.own,hk])));have Wq:Hid ((Sv.second G5.S.T lg 1 (G5.bt.set 0 (-x)) 0).1.length=lg):=(by rw[gu,ao];exact vQ.out);clear ze ev;dsimp only)
        refine hK.out _ _ (.inl rfl) (fun OA=> ?_);clear hK K;try simp only[Act.put,q5,q6,q7]
        refine R1 (i:=3) (o:= ?ac2) (by kernel_rfl) (by rfl) ?_;intro K hK;first | (have s3:=aw.aN oP.out;go_simp) |go_simp
        refine hK.out _ _ (.inl rfl) (fun js=> ?_);clear hK K;try simp only[Act.put,q5,q6,q7]
        refine R1 (i:=10) (o:= ?ac1) (by kernel_rfl) (by rfl) ?_;intro K hK;go_simp;refine hK.out _ _ (.inl rfl) (fun fo=> ?_);clear hK K;try simp only[Act.put,q5,q6,q7]
        refine R1 (i:=11) (o:= ?ac0) (by kernel_rfl) (by rfl) ?_;intro K hK;go_simp;refine hK.out _ _ (.inl rfl) (fun jh=> ?_);clear hK K;try simp only[Act.put,q5,q6,q7]
        refine aD (by kernel_rfl) ?_ _;refine NoPanic.normal ?_;have FF:Hid (LdP S1 l ct L w (.returned (.tuple #[.slice (some ⟨ga,0,none⟩) lg X5.c, .int .i64 (Sv.second G5.S.T lg 1 (G5.bt.set 0 (-x)) 0).2])) w5):=by
         obtain⟨h5,h6⟩:=SJ.out;have hz9:w.heap.size<=w9.heap.size:=yO.out.size;have e1:(GE.bt.set 0 (-xe)).length=lg:=by rw[<-h5,ao];exact vQ.out
         have e2:Sv.second GE.S.T (GE.bt.set 0 (-xe)).length 1 (GE.bt.set 0 (-xe)) 0=Sv.second G5.S.T lg 1 (G5.bt.set 0 (-x)) 0:=(by rw[e1,<-h5,h6])
         have e3:l.length=lg:=by rw[<-HL.out,e2];exact Wq.out
         refine⟨some ⟨ga,0,none⟩,X5.c,?_,L2,?_,dn.out,?_,fun k hk=> ?_,?_⟩
         ·rw[e3,<-WC.out,e2]
         ·rw[<-NX.out,<-h5];exact Ju.out
         ·rw[<-HL.out,e2];exact Jn.out
         ·exact⟨vf.out k (by rw[<-rK.out]at hk;simp[ma.own,hk]),vn.out.f3 k (by rw[rK.out];exact hk)⟩
         ·exact yu.out
        go_wp2_with fail;go_ret2;exact FF.out
       ·have hd:((op-1)==(0:Int))=false:=(by simp[hz])
        have HGO:Hid (Sv.eR f { G5 with fP:=op-1 } (rv-1) x (S.T.lits.take i).reverse=some (GE,xe)):=by have :=zE.out;rw[Sv.Ai (by rw[HV.out];exact X7.out) (by rw[Ji.out];exact hz),Ji.out,HV.out,HRV.out]at this;exact this
        have qD:IntKind.i64.wrap ((i:Int)-1)=(i:Int)-1:=IntWalk.i64_in _ (by omega);clear hz;go_wp2_with fail;go_roundg f;case measure=>omega
        case rel=>exact⟨_,rv-1,x,i,L2,X5,nk,rfl,rfl,rfl,by omega,by omega,by omega,BP,P9,HGO.out,FD.out,Jj.out.fP _,(by have :=FC.out;have :=Ji.out;exact⟨by omega,by simp only;omega,by simp only;omega,by simp only;omega⟩),yn.out,vf.out,dn.out,WK.out⟩
      ·have sq:decide (v∈G5.seen)=false:=aah vB;rw[sq]at jZ;have HR7:Hid (Sv.dV f G5 (S.T.lits.take i).reverse=some (GE,xe)):=by have :=zE.out;rw[Sv.ul (by rw[HV.out];exact vB)]at this;exact this
       have qD:IntKind.i64.wrap ((i:Int)-1)=(i:Int)-1:=IntWalk.i64_in _ (by omega);clear vB sq;go_wp2_with fail;refine au (by kernel_rfl) (by kernel_rfl) ?_;repeat (go_big_quiet_step (exact bh (KA.out _)))
       refine aak ?_;rintro w7 ⟨u2,b8⟩;have pD:Hid (Fr [] wr w7):=b8▸u2.fr;clear b8 u2;clear e0 e1 c0 g1 jZ KA;go_wp2_with fail;go_roundg i;case measure=>omega
       case rel=>exact⟨by omega,by go_num,HR7.out,jo.out.ag pD.out⟩
  ·have akE:n1= -1:=by omega
   subst akE;have Fp:Hid (Sv.dV f G1 (S.T.lits.take j).reverse=some (GE,xe)):=by have :=tf.out;unfold Sv.dA at this;rw[aac (by omega)]at this;exact this
   have FC:Hid (nm+1048577*f<=300000000000/\G1.bt.length+1048577*f<=300000000001/\G1.fP+1048577*(f:Int)<=300000000000/\(f:Int)-262144<=G1.fP):=by have :=OT.out;exact⟨by omega,by omega,by omega,by omega⟩
   clear tf OT;go_wp2_with fail;go_loopg [8] j (fun g3 x8 wt=>g3<=j/\x8= .int .i64 ((g3:Int)-1)/\Hid (Sv.dV f G1 (S.T.lits.take g3).reverse=some (GE,xe))/\Hid (Fr [] wr wt));case atStart=>exact⟨ap _,rfl,Fp.out,Fr.refl _ _⟩
   case round=>
    obtain⟨xp,rfl,Jh,jo⟩:=hrel;obtain⟨i,hi⟩:∃i,gk=i+1:=⟨gk-1,by
     rcases gk with _ |g
     ·exact absurd Jh.out (by simp[Sv.wW])
     ·omega⟩
    subst hi;have m7:i<S.T.lits.length:=(by omega)
    obtain⟨fN,gd,BP,P9,hx5⟩:=lz.out.pK m7;obtain⟨x,hx⟩:∃x,S.T.lits[i]! =x:=⟨_,rfl⟩
    rw[hx]at fN gd BP P9 hx5;have HX:=aa hx;obtain⟨rF,nO⟩:=wR BP P9 lx;obtain⟨v,hv⟩:∃v,tv x=v:=⟨_,rfl⟩
    rw[hv]at rF fN gd;have HV:=aa hv;have m8:((i+1:Nat):Int)-1=(i:Int):=(by omega)
    have zE:Hid (Sv.dV f G1 (x::(S.T.lits.take i).reverse)=some (GE,xe)):=by have :=Jh.out;rw[rW m7,HX.out]at this;exact this
    rw[m8];have AN:=aa (HB.out.keep jo.out);have c0:=AN.out.sv.cells.1;have g1:=AN.out.obj.cell 1;simp only[cU,cM,co]at g1;rw[HE.out.1]at c0;rw[NP.out]at g1;have e0:=Ext.cell c0;have e1:=Ext.cell g1;have KA:=aa (fun u:Ext wr=>kU u.v L1.tL G1.S.T (AN.out.sv.tr.fr u.fr (by simp)) (i:Int));simp only[HN.out.T,qa m7,HX.out]at KA;have jZ:∀u:Ext wr,(Instr.lookup 221 (.map (some X1.bm)) (.int .i64 v) false).run Tryz.prog u.v= .ok (.bool (decide (v∈G1.seen))) u.v:=fun u=>(AN.out.sn.keep u.fr).look ⟨by omega,by omega⟩;clear Jh hx hv m8;by_cases vB:v∈G1.seen
    ·have sq:decide (v∈G1.seen)=true:=aai vB;rw[sq]at jZ;have X7:=aa vB;clear vB sq;go_wp2_with fail;refine au (by kernel_rfl) (by kernel_rfl) ?_;repeat (go_big_quiet_step (exact bh (KA.out _)))
     refine aak ?_;rintro w7 ⟨u2,b8⟩;have pD:Hid (Fr [] wr w7):=b8▸u2.fr;clear b8 u2;clear e0 e1 c0 g1 jZ;have Jt:=aa (AN.out.keep pD.out);have rL:Hid (Fr (L.own w) w w7):=HF.out.ag ((jo.out.ag pD.out).mono (fun k hk=>by cases hk));clear jo AN pD KA;have c0:=Jt.out.sv.cells.1;rw[HE.out.1]at c0;have KA:=aa (kU w7 L1.tL G1.S.T Jt.out.sv.tr (i:Int));rw[HN.out.T,qa m7,HX.out]at KA;have KR:=aa (kw w7 L1.tL G1.S.T Jt.out.sv.tr v);obtain⟨rv,kE⟩:∃rv,G1.S.T.fy v=rv:=⟨_,rfl⟩
     rw[kE]at KR;have HRV:=aa kE;have iy:0<=rv/\rv<=S.list.length:=by have :=HN.out.ok.rs v;rw[kE,HN.out.len]at this;exact this
     obtain⟨akm,akl⟩:=iy;have oG:IntKind.i64.wrap (rv-1)=rv-1:=IntWalk.i64_in _ (by omega);have g2:=Jt.out.obj.cell 2;have fz:=Jt.out.obj.frozen 2;simp only[cU,cM,co]at g2;rw[NP.out]at g2 fz;obtain⟨op,Ol⟩:∃op,G1.fP=op:=⟨_,rfl⟩
     rw[Ol]at g2;have Om: -262145<=op/\op<=300000000000:=by have :=FC.out;omega
     obtain⟨akt,aks⟩:=Om;have vz:IntKind.i64.wrap (op-1)=op-1:=IntWalk.i64_in _ (by omega);have Ji:=aa Ol;have FD:=Jt.out.YG (op-1);rw[NP.out]at FD;have FD:=aa FD;have WK:Hid (Fr (L.own w) w (w7.setCell ⟨w.heap.size+1+1,2,none⟩ (.int .i64 (op-1)))):=rL.out.setCell (.inr (by simp only;omega)) _;clear kE Ol;go_wp2_with fail;refine KA.out.mono ?_;clear KA;rintro e w8 ⟨rfl,rfl⟩;go_wp2_with fail;refine KR.out.mono ?_;clear KR;rintro e w8 ⟨rfl,rfl⟩;by_cases hz:op-1=0
     ·have hd:((op-1)==(0:Int))=true:=(by simp[hz])
      have SJ:Hid (({ G1 with fP:=op-1 }:Sv.Gr)=GE/\x=xe):=by have :=zE.out;rw[Sv.wX (by rw[HV.out];exact X7.out) (by rw[Ji.out];exact hz),Ji.out]at this;show _/\_;simpa using this
      have WD:=HN.out.l0;obtain⟨ga,pu,Vu⟩:=Jt.out.ln.pos WD;have g3:=FD.out.obj.cell 3;simp only[cU,cM,co]at g3;rw[NP.out,pu]at g3;have ca:=FD.out.ln;rw[pu]at ca;have ca0:=ca.cell WD;have fa0:=ca.frozen 0;have ZQ:0<G1.bt.length:=WD;have vn:=aa (FD.out.eI pu (-x));have yO:Hid (Fr (L.own w) w ((w7.setCell ⟨w.heap.size+1+1,2,none⟩ (.int .i64 (op-1))).setCell ⟨ga,0,none⟩ (.int .i64 (-x)))):=WK.out.setCell (.inr (OI.out ga (by simp[ma.own,pu,ak]))) _;have rK:=aa pu;have abf:Hid (∀y∈G1.bt.set 0 (-x),-(S.vars:Int)<=y/\y<=S.vars):=fun y hy=>by
       rcases List.mem_or_eq_of_mem_set hy with h5 |h5
       ·exact HN.out.lr y h5
       ·rw[h5];omega
      obtain⟨lg,Hz⟩:∃lg,G1.bt.length=lg:=⟨_,rfl⟩
      have vQ:=aa Hz;rw[Hz]at g3 ZQ;clear hz pu Vu ca WD Hz c0;go_wp2_with fail;obtain⟨w9,uU⟩:∃w9,(w7.setCell ⟨w.heap.size+1+1,2,none⟩ (.int .i64 (op-1))).setCell ⟨ga,0,none⟩ (.int .i64 (-x))=w9:=⟨_,rfl⟩
      rw[uU]at vn yO⊢;have g3:=vn.out.obj.cell 3;simp only[cU,cM,co]at g3;rw[NP.out,rK.out,ao,vQ.out]at g3;have oP:=aa g3;have KS:=aa (fun W (hW:Fr [] w9 W)=>rS W L1 G1.S (vn.out.keep hW).sv m HN.out.ok X1.A X1.c (G1.bt.set 0 (-x)) (vn.out.keep hW).ln vn.out.f3 (by rw[HN.out.vars];exact abf.out) (by rw[ao];have :=FC.out;omega));rw[rK.out,HE.out.1,ao,vQ.out]at KS;have Sk:Hid (w.heap.size+1+1∉ak (some (⟨ga,0,none⟩:Addr))):=by show ¬_;intro hk;have :=(vn.out.d3 _ (by rw[rK.out];exact hk)).1;exact this NP.out.symm
      clear uU ca0 fa0 g2 fz oG vz FD WK;clear g3;refine aam ?_;refine bi (fun w':World=>Fr [] w9 w') 9 (by kernel_rfl) ((Fr.refl [] w9).drew) (fun cZ=> ?_);apply TB 8 [(0,[]),(1,[]),(2,[]),(4,[]),(5,[]),(6,[]),(7,[]),(8,[8,9])];kernel_rfl;rfl;· (repeat (apply eH;rfl;rfl;(· intro w bl;(try(have bl:=bl.resolve_left (aF _ _);(have s3:=bl.aN oP.out)));go_simp<;>with_reducible rfl);try simp only[Act.put,q5,q6,q7]));exact eG
      exact cZ;intro cZ;have aw:=cZ.resolve_left (by decide);refine bJ (rs:=[3,9]) (by kernel_rfl) (by simp) ?_;refine aZ.cons (o:= ?acZ) ?MS ?BQ ?_;case MS=>rfl
      case BQ=>
       intro K hK;first | (have s3:=aw.aN oP.out;go_simp) |go_simp
       refine hK.out _ _ (.inr ?_) (fun OA=> ?_)
       ·exact aw
       clear hK K;try simp only[Act.put,q5,q6,q7]
       refine R2 9 (by kernel_rfl) (by rfl) OA fun K hK aw=> ?_
       (go_simp;refine(KS.out _ aw).mono ?_;rintro e w5 ⟨rfl,ze,ev⟩;have g3':=ev.bK Sk.out (aw.aN oP.out);have Jn:=aa ze;have Ju:=aa ((vn.out.keep aw).sv.fr ev (fun k hk _=>vn.out.f3 k (by rw[rK.out];exact hk)));have yu:Hid (Fr (L.own w) w w5):=(yO.out.ag (aw.mono (fun k hk=>by cases hk))).trans ev (fun k hk=> .inr (OI.out k (by rw[<-rK.out]at hk;simp[ma.own,hk])));have Wq:Hid ((Sv.second G1.S.T lg 1 (G1.bt.set 0 (-x)) 0).1.length=lg):=(by rw[gu,ao];exact vQ.out);clear ze ev;dsimp only)
       refine hK.out _ _ (.inl rfl) (fun js=> ?_);clear hK K;try simp only[Act.put,q5,q6,q7]
       refine R1 (i:=10) (o:= ?acY) (by kernel_rfl) (by rfl) ?_;intro K hK;go_simp;refine hK.out _ _ (.inl rfl) (fun fo=> ?_);clear hK K;try simp only[Act.put,q5,q6,q7]
       refine R1 (i:=11) (o:= ?acX) (by kernel_rfl) (by rfl) ?_;intro K hK;go_simp;refine hK.out _ _ (.inl rfl) (fun jh=> ?_);clear hK K;try simp only[Act.put,q5,q6,q7]
       refine aD (by kernel_rfl) ?_ _;refine NoPanic.normal ?_;have FF:Hid (LdP S1 l ct L w (.returned (.tuple #[.slice (some ⟨ga,0,none⟩) lg X1.c, .int .i64 (Sv.second G1.S.T lg 1 (G1.bt.set 0 (-x)) 0).2])) w5):=by
        obtain⟨h5,h6⟩:=SJ.out;have hz9:w.heap.size<=w9.heap.size:=yO.out.size;have e1:(GE.bt.set 0 (-xe)).length=lg:=by rw[<-h5,ao];exact vQ.out
        have e2:Sv.second GE.S.T (GE.bt.set 0 (-xe)).length 1 (GE.bt.set 0 (-xe)) 0=Sv.second G1.S.T lg 1 (G1.bt.set 0 (-x)) 0:=(by rw[e1,<-h5,h6])
        have e3:l.length=lg:=by rw[<-HL.out,e2];exact Wq.out
        refine⟨some ⟨ga,0,none⟩,X1.c,?_,L1,?_,HE.out,?_,fun k hk=> ?_,?_⟩
        ·rw[e3,<-WC.out,e2]
        ·rw[<-NX.out,<-h5];exact Ju.out
        ·rw[<-HL.out,e2];exact Jn.out
        ·exact⟨OI.out k (by rw[<-rK.out]at hk;simp[ma.own,hk]),vn.out.f3 k (by rw[rK.out];exact hk)⟩
        ·exact yu.out
       go_wp2_with fail;go_ret2;exact FF.out
      refine aZ.cons (o:= ?acW) ?MR ?UC aZ.nil;case MR=>rfl
      intro K hK
      (go_simp;refine(KS.out _ aw).mono ?_;rintro e w5 ⟨rfl,ze,ev⟩;have g3':=ev.bK Sk.out (aw.aN oP.out);have Jn:=aa ze;have Ju:=aa ((vn.out.keep aw).sv.fr ev (fun k hk _=>vn.out.f3 k (by rw[rK.out];exact hk)));have yu:Hid (Fr (L.own w) w w5):=(yO.out.ag (aw.mono (fun k hk=>by cases hk))).trans ev (fun k hk=> .inr (OI.out k (by rw[<-rK.out]at hk;simp[ma.own,hk])));have Wq:Hid ((Sv.second G1.S.T lg 1 (G1.bt.set 0 (-x)) 0).1.length=lg):=(by rw[gu,ao];exact vQ.out);clear ze ev;dsimp only)
      refine hK.out _ _ (.inl rfl) (fun OA=> ?_);clear hK K;try simp only[Act.put,q5,q6,q7]
      refine R1 (i:=3) (o:= ?acV) (by kernel_rfl) (by rfl) ?_;intro K hK;first | (have s3:=aw.aN oP.out;go_simp) |go_simp
      refine hK.out _ _ (.inl rfl) (fun js=> ?_);clear hK K;try simp only[Act.put,q5,q6,q7]
      refine R1 (i:=10) (o:= ?acU) (by kernel_rfl) (by rfl) ?_;intro K hK;go_simp;refine hK.out _ _ (.inl rfl) (fun fo=> ?_);clear hK K;try simp only[Act.put,q5,q6,q7]
      refine R1 (i:=11) (o:= ?acT) (by kernel_rfl) (by rfl) ?_;intro K hK;go_simp;refine hK.out _ _ (.inl rfl) (fun jh=> ?_);clear hK K;try simp only[Act.put,q5,q6,q7]
      refine aD (by kernel_rfl) ?_ _;refine NoPanic.normal ?_;have FF:Hid (LdP S1 l ct L w (.returned (.tuple #[.slice (some ⟨ga,0,none⟩) lg X1.c, .int .i64 (Sv.second G1.S.T lg 1 (G1.bt.set 0 (-x)) 0).2])) w5):=by
       obtain⟨h5,h6⟩:=SJ.out;have hz9:w.heap.size<=w9.heap.size:=yO.out.size;have e1:(GE.bt.set 0 (-xe)).length=lg:=by rw[<-h5,ao];exact vQ.out
       have e2:Sv.second GE.S.T (GE.bt.set 0 (-xe)).length 1 (GE.bt.set 0 (-xe)) 0=Sv.second G1.S.T lg 1 (G1.bt.set 0 (-x)) 0:=(by rw[e1,<-h5,h6])
       have e3:l.length=lg:=by rw[<-HL.out,e2];exact Wq.out
       refine⟨some ⟨ga,0,none⟩,X1.c,?_,L1,?_,HE.out,?_,fun k hk=> ?_,?_⟩
       ·rw[e3,<-WC.out,e2]
       ·rw[<-NX.out,<-h5];exact Ju.out
       ·rw[<-HL.out,e2];exact Jn.out
       ·exact⟨OI.out k (by rw[<-rK.out]at hk;simp[ma.own,hk]),vn.out.f3 k (by rw[rK.out];exact hk)⟩
       ·exact yu.out
      go_wp2_with fail;go_ret2;exact FF.out
     ·have hd:((op-1)==(0:Int))=false:=(by simp[hz])
      have HGO:Hid (Sv.eR f { G1 with fP:=op-1 } (rv-1) x (S.T.lits.take i).reverse=some (GE,xe)):=by have :=zE.out;rw[Sv.Ai (by rw[HV.out];exact X7.out) (by rw[Ji.out];exact hz),Ji.out,HV.out,HRV.out]at this;exact this
      have qD:IntKind.i64.wrap ((i:Int)-1)=(i:Int)-1:=IntWalk.i64_in _ (by omega);clear hz;go_wp2_with fail;go_roundg f;case measure=>omega
      case rel=>exact⟨_,rv-1,x,i,L1,X1,nm,rfl,rfl,rfl,by omega,by omega,by omega,BP,P9,HGO.out,FD.out,HN.out.fP _,(by have :=FC.out;have :=Ji.out;exact⟨by omega,by simp only;omega,by simp only;omega,by simp only;omega⟩),NP.out,OI.out,HE.out,WK.out⟩
    ·have sq:decide (v∈G1.seen)=false:=aah vB;rw[sq]at jZ;have HR7:Hid (Sv.dV f G1 (S.T.lits.take i).reverse=some (GE,xe)):=by have :=zE.out;rw[Sv.ul (by rw[HV.out];exact vB)]at this;exact this
     have qD:IntKind.i64.wrap ((i:Int)-1)=(i:Int)-1:=IntWalk.i64_in _ (by omega);clear vB sq;go_wp2_with fail;refine au (by kernel_rfl) (by kernel_rfl) ?_;repeat (go_big_quiet_step (exact bh (KA.out _)))
     refine aak ?_;rintro w7 ⟨u2,b8⟩;have pD:Hid (Fr [] wr w7):=b8▸u2.fr;clear b8 u2;clear e0 e1 c0 g1 jZ KA;go_wp2_with fail;go_roundg i;case measure=>omega
     case rel=>exact⟨by omega,by go_num,HR7.out,jo.out.ag pD.out⟩
namespace Sv
structure Tt (S:Sv)(G:Gr):Prop where
 nd:G.seen.Nodup
 sn:∀v∈G.seen,1<=v/\v<=S.vars
 ln:G.bt.length<=G.seen.length+1
 lt:∀x∈G.bt.tail,x≠0
theorem Um {S:Sv}{m:Nat}(ok:S.Ok m){v:Int}(h:¬S.T.dp v<=0):1<=v/\v<=S.vars:=by
 obtain⟨R,hR⟩:=ok.tr;unfold Tr.dp at h;split at h
 ·rename_i hb;have :=Tr.dB hb;rw[hR.size]at this;omega
 ·omega
theorem GH {S:Sv}{m:Nat}(ok:S.Ok m)(v:Int): -1<=S.T.dp v/\S.T.dp v<=S.T.levels.length:=by
 obtain⟨R,hR⟩:=ok.tr;rw[hR.dp];cases hk:look R v with
 |none=>simp only;omega
 |some e=>
  have :=hR.bound e (iN hk).1;simp only;omega
theorem AW {l:Int}(h:1<=tv l):l≠0:=by rintro rfl;rw[ni (by omega)]at h;omega
theorem Dl {l:List Int}{x:Int}(h:0<l.length):(l++[x]).tail=l.tail++[x]:=by
 cases l with
 |nil=>simp at h
 |cons y r=>rfl
theorem Tt.meet {S:Sv}{m:Nat}{G:Gr}(h:Tt S G)(hn:nY S m G)(l:Int):Tt S (meet G l):=by
 by_cases h1:tv l∈G.seen\/G.S.T.dp (tv l)<=0
 ·rw[jK h1];exact h
 ·have Kd:tv l∉G.seen:=fun e=>h1 (.inl e);have hv:=Um hn.ok (v:=tv l) (fun e=>h1 (.inr e));rw[hn.vars]at hv;have yC:(tv l::G.seen).Nodup:=fG.2 ⟨Kd,h.nd⟩;have vB:∀v∈tv l::G.seen,1<=v/\v<=S.vars:=fun v hm=>by
   rcases av.1 hm with rfl |hm
   ·exact hv
   ·exact h.sn v hm
  have Kf:=h.ln;by_cases h2:G.S.T.dp (tv l)=G.S.T.levels.length
  ·rw[gT h1 h2];exact⟨yC,vB,by show G.bt.length<=(tv l::G.seen).length+1;simp;omega,h.lt⟩
  ·rw[jb h1 h2];refine⟨yC,vB,by show(G.bt++[l]).length<=(tv l::G.seen).length+1;simp;omega,?_⟩;show ∀x∈(G.bt++[l]).tail,x≠0;rw[Dl hn.l0];intro x hx;rcases ah.1 hx with hx |hx
   ·exact h.lt x hx
   ·simp at hx;rw[hx];exact AW hv.1
theorem tC {S:Sv}{m:Nat}(skip:Int):∀(ls:List Int) (G:Gr),(∀x∈ls,-(S.vars:Int)<=x/\x<=S.vars)->Tt S G->nY S m G->Tt S (meets skip ls G)/\nY S m (meets skip ls G)
 |[],G,hl,h1,h2=>⟨h1,h2⟩
 |l::r,G,hl,h1,h2=>by
  rw[meets];split
  ·exact tC skip r _ (fun x hx=>hl x (aY _ hx)) (h1.meet h2 l) (h2.meet (hl l (by simp)))
  ·exact tC skip r _ (fun x hx=>hl x (aY _ hx)) h1 h2
theorem GL {S:Sv}{m:Nat}{G:Gr}(n skip:Int)(h1:Tt S G)(h2:nY S m G):Tt S (dA G n skip)/\nY S m (dA G n skip):=by
 unfold dA;split
 ·refine tC skip _ _ (fun x hx=> ?_) ⟨h1.nd,h1.sn,h1.ln,h1.lt⟩ (h2.gK n.toNat);have :=h2.ok.lr n.toNat x hx;rw[h2.vars]at this;exact this.2
 ·exact⟨h1,h2⟩
theorem wV {S:Sv}{m:Nat}:∀(f:Nat) (G:Gr) (n skip:Int) (rest:List Int) (GE:Gr) (xe:Int),eR f G n skip rest=some (GE,xe)->Tt S G->nY S m G->Tt S GE/\nY S m GE/\xe∈rest
 |0,G,n,skip,rest,GE,xe,h,_,_=>by rw[iO]at h;cases h
 |f+1,G,n,skip,rest,GE,xe,h,h1,h2=>by
  rw[jz]at h;obtain⟨k1,k2⟩:=GL n skip h1 h2;generalize dA G n skip=G1 at h k1 k2;unfold dV at h;have hd:=List.dropWhile_sublist (fun x=>decide (tv x∉G1.seen)) (l:=rest);cases hq:rest.dropWhile (fun x=>decide (tv x∉G1.seen))with
  |nil=>rw[hq]at h;cases h
  |cons x r=>
   rw[hq]at h hd;simp only at h;split at h
   ·simp only[Option.some.injEq,Prod.mk.injEq]at h;obtain⟨rfl,rfl⟩:=h;exact⟨⟨k1.nd,k1.sn,k1.ln,k1.lt⟩,k2.fP _,hd.subset (by simp)⟩
   ·obtain⟨g1,g2,g3⟩:=wV f _ _ _ _ GE xe h ⟨k1.nd,k1.sn,k1.ln,k1.lt⟩ (k2.fP _);exact⟨g1,g2,hd.subset (aY _ g3)⟩
theorem kX {T:Tr}{D:Int}(hD:∀v,T.dp v<=D):∀(f k:Nat) (l:List Int) (ct:Int),ct<=(second T f k l ct).2/\(second T f k l ct).2<=max ct D
 |0,k,l,ct=>⟨my _,by show ct<=_;omega⟩
 |f+1,k,l,ct=>by
  rw[second];split
  ·split
   ·rename_i h1 h2;have :=kX hD f (k+1) (cS l 1 k) (T.dp (tv l[k]!));have :=hD (tv l[k]!);omega
   ·exact kX hD f (k+1) l ct
  ·exact⟨my _,by show ct<=_;omega⟩
theorem nu {T:Tr}:∀(f k:Nat) (l:List Int) (ct:Int),1<=k->∀x∈(second T f k l ct).1,x∈l
 |0,k,l,ct,_,x,hx=>hx
 |f+1,k,l,ct,h,x,hx=>by
  rw[second]at hx;split at hx
  ·split at hx
   ·exact rR (by omega) (by omega) (nu f (k+1) _ _ (by omega) x hx)
   ·exact nu f (k+1) l ct (by omega) x hx
  ·exact hx
theorem Pn {S:Sv}{G:Gr}(h:Tt S G):G.seen.length<=S.vars+1:=by
 have hn:(G.seen.map Int.toNat).Nodup:=by unfold List.Nodup;rw[List.pairwise_map];refine List.Pairwise.imp_of_mem ?_ h.nd;intro a b ha hb dS e;have :=h.sn a ha;have :=h.sn b hb;omega
 have :=ja (S.vars+1) _ hn (fun x hx=>by rw[aG]at hx;obtain⟨y,hy,rfl⟩:=hx;have :=h.sn y hy;omega);simpa using this
theorem gx {S:Sv}{m:Nat}(ok:S.Ok m){n:Nat}{S1:Sv}{l:List Int}{ct:Int}(h:S.fL n=some (S1,l,ct)):
  S1.Ok m/\S1.T=S.T/\S1.vars=S.vars/\S1.list.length=S.list.length/\S1.used=S.used/\0<l.length/\l.length<=1048576/\(∀x∈l,x≠0/\ -(S.vars:Int)<=x/\x<=S.vars)/\0<=ct/\ct<=S.T.levels.length:=by
 have lx:=ok.vl;unfold fL at h;cases hq:eR (S.T.lits.length+1) ⟨S,[],0,[0]⟩ n 0 S.T.lits.reverse with
 |none=>rw[hq]at h;cases h
 |some q=>
  obtain⟨G,x⟩:=q;rw[hq]at h;simp only[Option.some.injEq,Prod.mk.injEq]at h;obtain⟨rfl,rfl,rfl⟩:=h;obtain⟨g1,g2,g3⟩:=wV (S:=S) (m:=m) _ _ _ _ _ G x hq ⟨by simp,fun v hv=>by simp at hv,by simp,fun v hv=>by simp at hv⟩ ⟨rfl,rfl,rfl,rfl,ok,fun x hx=>by simp at hx;subst hx;omega,by simp⟩;have hl:=g1.ln;have hs:=Pn g1;have h0:=g2.l0;have hxb:x≠0/\ -(S.vars:Int)<=x/\x<=S.vars:=by rw[dK]at g3;obtain⟨i,hi,e⟩:=List.getElem_of_mem g3;have :=ok.pK hi;simp only[ae,af hi,ay,e]at this;exact⟨this.2.2.2.2,this.2.2.1,this.2.2.2.1⟩
  refine⟨g2.ok,g2.T,g2.vars,g2.len,g2.used,by rw[gu,ao];exact h0,by rw[gu,ao];omega,fun y hy=> ?_,?_,?_⟩
  ·have hy:=nu _ _ _ _ (ap 1) y hy;cases hg:G.bt with
   |nil=>rw[hg]at h0;simp at h0
   |cons z r=>
    rw[hg]at hy;simp only[List.set_cons_zero,av]at hy;rcases hy with rfl |hy
    ·omega
    ·exact⟨g1.lt y (by rw[hg];exact hy),g2.lr y (by rw[hg];exact aY _ hy)⟩
  ·exact(kX (T:=G.S.T) (D:=G.S.T.levels.length) (fun v=>(GH g2.ok v).2) _ _ _ _).1
  ·have :=(kX (T:=G.S.T) (D:=G.S.T.levels.length) (fun v=>(GH g2.ok v).2) (G.bt.set 0 (-x)).length 1 (G.bt.set 0 (-x)) 0).2;rw[g2.T]at this⊢;omega
theorem LX (G:Gr)(l:Int):(meet G l).S.bump=G.S.bump/\(meet G l).S.many=G.S.many:=by
 by_cases h:tv l∈G.seen\/G.S.T.dp (tv l)<=0
 ·rw[jK h];exact⟨rfl,rfl⟩
 ·by_cases h2:G.S.T.dp (tv l)=G.S.T.levels.length
  ·rw[gT h h2];exact⟨rfl,rfl⟩
  ·rw[jb h h2];exact⟨rfl,rfl⟩
theorem qY (skip:Int):∀(ls:List Int) (G:Gr),(meets skip ls G).S.bump=G.S.bump/\(meets skip ls G).S.many=G.S.many
 |[],G=>⟨rfl,rfl⟩
 |l::r,G=>by
  rw[meets];split
  ·have h1:=qY skip r (meet G l);have h2:=LX G l;exact⟨h1.1.trans h2.1,h1.2.trans h2.2⟩
  ·exact qY skip r G
theorem DU (G:Gr)(n skip:Int):(dA G n skip).S.bump=G.S.bump/\(dA G n skip).S.many=G.S.many:=by
 unfold dA;split
 ·exact qY skip _ _
 ·exact⟨rfl,rfl⟩
theorem uk:∀(f:Nat) (G:Gr) (n skip:Int) (rest:List Int) (GE:Gr) (xe:Int),eR f G n skip rest=some (GE,xe)->GE.S.bump=G.S.bump/\GE.S.many=G.S.many
 |0,G,n,skip,rest,GE,xe,h=>by rw[iO]at h;cases h
 |f+1,G,n,skip,rest,GE,xe,h=>by
  rw[jz]at h;have hk:=DU G n skip;generalize dA G n skip=G1 at h hk;unfold dV at h;cases hq:rest.dropWhile (fun x=>decide (tv x∉G1.seen))with
  |nil=>rw[hq]at h;cases h
  |cons x r=>
   rw[hq]at h;simp only at h;split at h
   ·simp only[Option.some.injEq,Prod.mk.injEq]at h;obtain⟨rfl,rfl⟩:=h;exact hk
   ·have :=uk f _ _ _ _ GE xe h;exact⟨this.1.trans hk.1,this.2.trans hk.2⟩
theorem sg {S:Sv}{n:Nat}{S1:Sv}{l:List Int}{ct:Int}(h:S.fL n=some (S1,l,ct)):S1.bump=S.bump/\S1.many=S.many:=by
 unfold fL at h;cases hq:eR (S.T.lits.length+1) ⟨S,[],0,[0]⟩ n 0 S.T.lits.reverse with
 |none=>rw[hq]at h;cases h
 |some q=>
  obtain⟨G,x⟩:=q;rw[hq]at h;simp only[Option.some.injEq,Prod.mk.injEq]at h;obtain⟨rfl,-,-⟩:=h;exact uk _ _ _ _ _ G x hq
theorem NB (S:Sv)(level:Nat):(S.back level).bump=S.bump/\(S.back level).many=S.many/\(S.back level).used=S.used:=by have h:=jF S level;exact⟨h.2.2.2.2.2.2,h.2.2.1,h.2.1⟩
theorem Ok.ch {S:Sv}{m:Nat}(ok:S.Ok m):S.ch.Ok m:=⟨ok.vl,ok.tr,ok.hi,ok.hl,ok.ph,ok.wl,ok.ll,ok.wb,ok.wt,ok.lr,ok.ln,ok.lb,ok.hd,ok.rs⟩
theorem Ok.JM {S:Sv}{m:Nat}(ok:S.Ok m)(x:Int):({ S with many:=x }:Sv).Ok m:=⟨ok.vl,ok.tr,ok.hi,ok.hl,ok.ph,ok.wl,ok.ll,ok.wb,ok.wt,ok.lr,ok.ln,ok.lb,ok.hd,ok.rs⟩
theorem Ok.Bm {S:Sv}{m:Nat}(ok:S.Ok m)(x:Bool):({ S with bad:=x }:Sv).Ok m:=⟨ok.vl,ok.tr,ok.hi,ok.hl,ok.ph,ok.wl,ok.ll,ok.wb,ok.wt,ok.lr,ok.ln,ok.lb,ok.hd,ok.rs⟩
theorem Ok.bu {S:Sv}{m:Nat}(ok:S.Ok m){l:List Int}(h0:0<l.length)(h1:l.length<=1048576)(hl:∀x∈l,x≠0/\ -(S.vars:Int)<=x/\x<=S.vars)(hr:S.list.length<2199023255552):(S.bu l).Ok m:=by
 unfold Sv.bu;split
 ·exact ok.put ⟨by omega,by omega⟩
 ·rename_i h2;have hf:S.Fits l:=⟨by omega,h1,hl⟩
  have h3:=ok.attach hf true hr;have h4:=cE S l true;exact(h3.put (x:=l[0]!) (r:=(S.list.length:Int)+1) ⟨by omega,by rw[h4.2.2.1];omega⟩).JM _
end Sv
theorem aO.Rk {L L' M:aO}{A:Option Addr}{w w':World}(h:L.ext M w)(ha:L'.a=M.a)(hi:L'.id=M.id)(hk:∀k,k<w'.heap.size->(L'.cY k).1=M.id->(M.cY k).1=M.id\/k∈ak A)(hz:w.heap.size<=w'.heap.size)(hA:∀k,k∈ak A->w.heap.size<=k):L.ext L' w:=
 ⟨ha.trans h.1,hi.trans h.2.1,fun k hl e=>by
  rcases hk k (aK hl hz) (e.trans h.2.1.symm)with h1 |h1
  ·exact h.2.2 k hl (h1.trans h.2.1)
  ·have :=hA k h1;omega⟩
theorem aO.Bz {L M:aO}{A:Option Addr}{w w' yx:World}(h:L.ext M w)(h1:Fr (L.own w) w w')(h2:Fr (ak A++M.own w') w' yx)(hA:∀k,k∈ak A->w.heap.size<=k):Fr (L.own w) w yx:=
 h1.trans h2 fun x hx=>by
  rcases ah.1 hx with hx |hx
  ·exact .inr (hA x hx)
  ·rw[aO.bT]at hx;rcases bv x w.heap.size with hl |hl
   ·left
    rw[aO.bT];exact⟨hl,h.2.2 x hl (hx.2.trans h.2.1)⟩
   ·exact .inr hl
theorem Dj (b:Nat):((b:Int).tdiv 16)=((b/16:Nat):Int):=by rw[Int.tdiv_eq_ediv_of_nonneg (by omega)];rfl
set_option maxRecDepth 100000 in
set_option maxHeartbeats 16000000 in
theorem xX (w:World)(L:aO)(S:Sv)(h:aX w L S)(m:Nat)(ok:S.Ok m)(n:Nat)(hn:n<S.list.length)(qh:S.list.length<2199023255552)(hu:S.used<=2199023255552)(hbu:S.bump<=1073741824)(hma:S.many<4611686018427387904)(Ot: -4611686018427387904<S.many)(FJ:S.T.levels.length<=8796093022208)(S':Sv)(b:Bool)(fM:S.conflict n=some (S',b)):
  Calls Tryz.prog 138 #[.pointer (some ⟨L.a,0,none⟩), .int .i64 n] w (pz (.bool b) S' L w):=by
 have HH:=aa h;have lz:=aa ok;obtain⟨c0,-⟩:=h.cells;have KD:=aa (lO w L.tL S.T h.tr);unfold Sv.conflict at fM;by_cases hz:S.T.levels.length=0
 ·rw[aae hz]at fM;simp only[Option.some.injEq,Prod.mk.injEq]at fM;obtain⟨rfl,rfl⟩:=fM;rw[hz]at KD;have tN:=h.obj.frozen 13;have OF:=h.cells.2.2.2.2.2.2.2.2.2.2.2.2.2.1;obtain⟨g1,g2⟩:=h.qe 13 (.bool true) { S with bad:=true } (by simp[pM]) ⟨rfl,rfl,rfl,rfl,rfl,rfl,rfl⟩;have FF:Hid (pz (.bool false) { S with bad:=true } L w (.returned (.bool false)) (w.setCell ⟨L.a,13,none⟩ (.bool true))):=⟨rfl,L,g1,aO.cv _ _,g2⟩
  clear h ok g1 g2 hz;go_enter Tryz.func138,Tryz.ntmps138;go_wp2_with fail;refine KD.out.mono ?_;rintro e w1 ⟨rfl,rfl⟩;clear KD;go_wp2_with fail;go_ret;exact FF.out
 ·rw[aac hz]at fM;have hd:((S.T.levels.length:Int)==(0:Int))=false:=by rw[aar];omega
  cases hq:S.fL n with
  |none=>rw[hq]at fM;cases fM
  |some q=>
   obtain⟨S1,l,ct⟩:=q;rw[hq]at fM;simp only[Option.some.injEq,Prod.mk.injEq]at fM;obtain⟨rfl,rfl⟩:=fM;have XX:=aa (y8 w L S h m ok n hn S1 l ct hq);obtain⟨tA,eT,eV,eL,eU,l0,l1,lr,adf,ade⟩:=Sv.gx ok hq;obtain⟨lv,rfl⟩:∃lv:Nat,ct=lv:=⟨ct.toNat,by omega⟩
   have mj:lv<=8796093022208:=by omega
   have Sh:=aa tA;have sV:=aa lr;have lx:=ok.vl;obtain⟨ok2,eV2,XR⟩:=tA.back lv;have Wv:=aa ok2;obtain⟨S2,Kn⟩:∃S2,S1.back lv=S2:=⟨_,rfl⟩
   have hx:=Sv.NB S1 lv;rw[Kn]at ok2 eV2 XR Wv hx;have HS2:=aa Kn;have iK:S2.bump=S.bump/\S2.many=S.many/\S2.used=S.used:=⟨hx.1.trans (Sv.sg hq).1,hx.2.1.trans (Sv.sg hq).2,hx.2.2.trans eU⟩
   obtain⟨EK,ju,D9⟩:=iK;have XA:S2.list.length=S.list.length:=by rw[XR];exact eL
   have Xe:S2.vars=S.vars:=eV2.trans eV;have HV2:=aa Xe;have Sw:=aa XA;have Ty:=aa D9;have pB:=aa qh;have HU:=aa hu;have dM:Hid (((S1.back ((lv:Int).toNat)).bu l).ch=(S2.bu l).ch):=by show _=_;rw[Int.toNat_natCast,Kn]
   rw[dM.out];clear h ok hz hq tA lr ok2 Kn eT eV eL eU eV2 XR hx hn XA Xe D9 qh hu adf ade;go_enter Tryz.func138,Tryz.ntmps138;go_wp2_with fail;refine KD.out.mono ?_;rintro e w1 ⟨rfl,rfl⟩;clear KD c0;go_wp2_with fail;refine XX.out.mono ?_;clear XX hd;rintro e w1 ⟨A,c,rfl,L1,h1,td,Ie,hA1,cX⟩;have H1:=aa h1;have fa:=aa td;have FU:=aa Ie;have TF:=aa hA1;have dI:=aa cX;clear h1 td Ie hA1 cX;have KB:=aa (nW w1 L1 S1 H1.out m Sh.out lv (by omega));rw[fa.out.1,HS2.out]at KB;go_wp2_with fail;refine KB.out.mono ?_;clear KB;rintro e w2 ⟨rfl,L2,h2,jM,bW⟩;have H2:=aa h2;have dn:=aa (aO.aV fa.out jM dI.out.size);have cw:=aa (aO.aQ fa.out dI.out bW);have nZ:Hid (Ints w2 A c l):=FU.out.fr bW (fun k hk hm=>(TF.out k hk).2 (aO.bT.1 hm).2);have C1:Hid (∀k,k∈ak A->w.heap.size<=k/\(L2.cY k).1≠L2.id):=fun k hk=>⟨(TF.out k hk).1,fun e=>(TF.out k hk).2 (jM.2.2 k (FU.out.lt k hk) (e.trans jM.2.1))⟩
   clear h2 jM bW FU TF H1 fa dI Sh;obtain⟨ga,pu,uy⟩:=nZ.out.pos l0;subst pu;have s0:=H2.out.cells.1;rw[dn.out.1]at s0;have s1:=nZ.out.cell l0;obtain⟨y,hy⟩:∃y,l[0]! =y:=⟨_,rfl⟩
   rw[hy]at s1;have Tc:=sV.out y (by rw[<-hy];exact get_mem l0);obtain⟨jX,iP,lE⟩:=Tc;have HY:=aa hy;have vS:=aa s0;have qr:=aa s1;clear uy hy s0 s1;by_cases zd:l.length=1
   ·have Av:((l.length:Int)==(1:Int))=true:=by simp[zd]
    have CZ:Hid (S2.bu l=S2.put y 0):=by show _=_;unfold Sv.bu;rw[aae zd,HY.out]
    have KP:=aa (fun W (hW:Fr [] w2 W)=>mM W L2 S2 (H2.out.keep hW) m Wv.out y 0 (by rw[HV2.out];exact iP) (by rw[HV2.out];exact lE));go_wp2_with fail;go_upto_region 7 with fail;refine aam ?_;refine bi (fun w':World=>Fr [] w2 w') 7 (by kernel_rfl) ((Fr.refl [] w2).drew) (fun cZ=> ?_);apply TB 7 [(0,[]),(1,[]),(2,[]),(3,[3,7]),(4,[]),(5,[]),(6,[6,7])];kernel_rfl;rfl;· (repeat (apply eH;rfl;rfl;(· intro w bl;(try(have bl:=bl.resolve_left (aF _ _);(have s0:=bl.aN vS.out;have s1:=bl.aN qr.out)));go_simp<;>with_reducible rfl);try simp only[Act.put,q5,q6,q7]));exact eG
    exact cZ;intro cZ;refine R2 7 (by kernel_rfl) (by rfl) cZ fun K hK aw=> ?_
    (go_simp;refine(KP.out _ aw).mono ?_;rintro e w5 ⟨⟨x5,rfl⟩,L5,h5,vE,ev⟩;dsimp only)
    refine hK.out _ _ (.inl rfl) (fun Km=> ?_);clear hK K;try simp only[Act.put,q5,q6,q7]
    refine aD (by kernel_rfl) ?_ _;refine NoPanic.normal ?_;clear KP;have oQ:Hid (L.ext L5 w):=aO.aV dn.out vE (aE cw.out.size aw.size);have kO:Hid (Fr (L.own w) w w5):=aO.aQ dn.out (cw.out.ag (aw.mono (fun k hk=>by cases hk))) ev;have H5:=aa h5;clear h5 vE ev;obtain⟨S6,zh⟩:∃S6,S2.put y 0=S6:=⟨_,rfl⟩
    rw[zh]at H5;have yM:Hid (S6=S2.bu l):=by rw[CZ.out];exact zh.symm
    have hb6:S6.bump=S2.bump:=by rw[<-zh];rfl
    have H6:=H5;have jo:=kO;clear zh;go_wp2_with fail;obtain⟨-,-,-,-,-,-,-,-,-,-,RE,-⟩:=H6.out.cells;rw[oQ.out.1]at RE;have f10:=H6.out.obj.frozen 10;rw[oQ.out.1]at f10;have Iw:S6.bump=S.bump:=hb6.trans EK;rw[Iw]at RE;obtain⟨bb,tS⟩:∃bb,S.bump=bb:=⟨_,rfl⟩
    rw[tS]at RE hbu;have FW:=aa (Iw.trans tS);have uw:=Dj bb;have Uz:IntKind.i64.wrap ((bb:Int)+((bb/16:Nat):Int))=(bb:Int)+((bb/16:Nat):Int):=IntWalk.i64_in _ (by omega);have Og:IntKind.i64.wrap ((bb:Int)+((bb/16:Nat):Int)+1)=(bb:Int)+((bb/16:Nat):Int)+1:=IntWalk.i64_in _ (by omega);clear Iw tS uw;rcases bv 1073741824 (bb+bb/16+1)with ZG |ZG
    ·have ZE:(1073741824:Int)<(bb:Int)+((bb/16:Nat):Int)+1:=(by omega)
     have yt:Hid (min (bb+bb/16+1) 1073741824=1073741824):=Nat.min_eq_right (by omega);clear ZG;go_upto_region 10 with fail;go_region;obtain⟨g7,f7⟩:=H6.out.qe 10 (.int .i64 ((1073741824:Nat):Int)) { S6 with bump:=1073741824 } (by simp[pM]) ⟨rfl,rfl,rfl,rfl,rfl,rfl,rfl⟩;rw[oQ.out.1]at g7 f7;have h8:=g7.keep (Fr.refl [] _).drew;have xv:({ S6 with bump:=1073741824 }:Sv)=(S2.bu l).ch:=by rw[<-yM.out];unfold Sv.ch;rw[FW.out,yt.out]
     rw[xv]at h8;have FF:Hid (pz (.bool true) (S2.bu l).ch L w (.returned (.bool true)) _):=⟨rfl,L5,h8,oQ.out,(aO.aQ oQ.out jo.out f7).drew⟩
     clear h8 f7 g7 xv RE f10 Uz Og;go_wp2_with fail;go_ret;exact FF.out
    ·have ZE:(bb:Int)+((bb/16:Nat):Int)+1<=(1073741824:Int):=(by omega)
     have yt:Hid (min (bb+bb/16+1) 1073741824=bb+bb/16+1):=j4 (by omega);have Jr:Hid ((bb:Int)+(bb:Int)/16+1=((bb+bb/16+1:Nat):Int)):=by show _=_;omega
     clear ZG;go_upto_region 10 with fail;go_region;rw[Jr.out];obtain⟨g7,f7⟩:=H6.out.qe 10 (.int .i64 (((bb+bb/16+1):Nat):Int)) { S6 with bump:=(bb+bb/16+1) } (by simp[pM]) ⟨rfl,rfl,rfl,rfl,rfl,rfl,rfl⟩;rw[oQ.out.1]at g7 f7;have h8:=g7.keep (Fr.refl [] _).drew;have xv:({ S6 with bump:=(bb+bb/16+1) }:Sv)=(S2.bu l).ch:=by rw[<-yM.out];unfold Sv.ch;rw[FW.out,yt.out]
     rw[xv]at h8;have FF:Hid (pz (.bool true) (S2.bu l).ch L w (.returned (.bool true)) _):=⟨rfl,L5,h8,oQ.out,(aO.aQ oQ.out jo.out f7).drew⟩
     clear h8 f7 g7 xv RE f10 Uz Og;go_wp2_with fail;go_ret;exact FF.out
   ·have Av:((l.length:Int)==(1:Int))=false:=by rw[aar];omega
    have vm:Hid (S2.Fits l):=⟨by omega,l1,fun x hx=>by rw[HV2.out];exact sV.out x hx⟩
    obtain⟨nl,ov⟩:∃nl,S2.list.length=nl:=⟨_,rfl⟩
    have FR:=aa ov;have asd:nl<2199023255552:=by rw[<-ov,Sw.out];exact pB.out
    have CZ:Hid (S2.bu l={ ((S2.attach l true).put y ((nl:Int)+1))with many:=S2.many+1 }):=by show _=_;unfold Sv.bu;rw[aac zd,HY.out,FR.out]
    have CV:=aa (fun W (hW:Fr [] w2 W)=>sQ W L2 S2 (H2.out.keep hW) m Wv.out (some ⟨ga,0,none⟩) c l true (nZ.out.fD hW) vm.out (fun k hk=>(C1.out k hk).2) (by rw[Sw.out];exact pB.out) (by rw[Ty.out];exact HU.out));rw[dn.out.1,ov]at CV;have amW:=aa (Wv.out.attach vm.out true (by rw[Sw.out];exact pB.out));have tT:=Sv.cE S2 l true;have SV:=aa tT;have hwn:IntKind.i64.wrap ((nl:Int)+1)=(nl:Int)+1:=IntWalk.i64_in _ (by omega);clear tT ov;go_wp2_with fail;go_upto_region 8 with fail;refine aam ?_;refine bi (fun w':World=>w'.cell? ⟨L.a,0,none⟩=some (.pointer (some ⟨L2.tL.a,0,none⟩))/\w'.cell? ⟨ga,0,none⟩=some (.int .i64 y)) 11 (by kernel_rfl) (⟨vS.out,qr.out⟩) (fun cZ=> ?_);apply TB 9 [(0,[]),(1,[]),(2,[]),(3,[3,11]),(4,[]),(5,[]),(6,[6,11]),(7,[]),(8,[])];kernel_rfl;rfl;· (repeat (apply eH;rfl;rfl;(· intro w bl;(try(have bl:=bl.resolve_left (aF _ _);(have s0:=bl.1;have s1:=bl.2)));go_simp<;>with_reducible rfl);try simp only[Act.put,q5,q6,q7]));exact eG
    exact cZ;intro cZ;refine R2 9 (by kernel_rfl) (by rfl) cZ fun K hK aw=> ?_
    (go_simp;refine(CV.out _ (Fr.refl [] w2).drew).mono ?_;rintro e w4 ⟨rfl,L4,h4,ha4,BU,hk4,eS,Xr,ht4⟩;have s0':=h4.cells.1;rw[ha4,dn.out.1,ht4]at s0';have s1':=Xr.cell l0;rw[HY.out]at s1';have H4:=aa h4;have vR:Hid (L.ext L4 w):=aO.Rk dn.out ha4 BU hk4 cw.out.size (fun k hk=>(C1.out k hk).1);have gY:Hid (Fr (L.own w) w w4):=aO.Bz dn.out cw.out.drew eS (fun k hk=>(C1.out k hk).1);have HT4:=aa ht4;have KP:=aa (mM w4 L4 (S2.attach l true) h4 m amW.out y ((nl:Int)+1) (by rw[SV.out.2.1,HV2.out];exact iP) (by rw[SV.out.2.1,HV2.out];exact lE));rw[ht4]at KP;clear h4 ha4 BU hk4 eS Xr ht4;dsimp only)
    refine hK.out _ _ (.inr ?_) (fun js=> ?_)
    ·first |exact⟨s0',s1'⟩ |exact aw
    clear hK K;try simp only[Act.put,q5,q6,q7]
    apply TB 1 [(10,[])];kernel_rfl;rfl;· (repeat (apply eH;rfl;rfl;(· intro w bl;go_simp<;>with_reducible rfl);try simp only[Act.put,q5,q6,q7]));exact eG
    exact js;intro js;refine R2 11 (by kernel_rfl) (by rfl) js fun K hK aw=> ?_
    (go_simp;refine KP.out.mono ?_;rintro e w5 ⟨⟨x5,rfl⟩,L5,h5,vE,ev⟩;dsimp only)
    refine hK.out _ _ (.inl rfl) (fun jh=> ?_);clear hK K;try simp only[Act.put,q5,q6,q7]
    refine aD (by kernel_rfl) ?_ _;refine NoPanic.normal ?_;clear KP CV;have oQ:Hid (L.ext L5 w):=aO.aV vR.out vE gY.out.size;have kO:Hid (Fr (L.own w) w w5):=aO.aQ vR.out gY.out ev;have H5:=aa h5;clear h5 vE ev;obtain⟨-,-,-,-,-,-,-,-,-,-,-,b11,-⟩:=H5.out.cells;rw[oQ.out.1]at b11;have f11:=H5.out.obj.frozen 11;rw[oQ.out.1]at f11;have hm5:((S2.attach l true).put y ((nl:Int)+1)).many=S.many:=ju;rw[hm5]at b11;obtain⟨mm,yD⟩:∃mm,S.many=mm:=⟨_,rfl⟩
    rw[yD]at b11 hma Ot;have uU:IntKind.i64.wrap (mm+1)=mm+1:=IntWalk.i64_in _ (by omega);obtain⟨g6,f6⟩:=H5.out.qe 11 (.int .i64 (mm+1)) { ((S2.attach l true).put y ((nl:Int)+1))with many:=mm+1 } (by simp[pM]) ⟨rfl,rfl,rfl,rfl,rfl,rfl,rfl⟩;rw[oQ.out.1]at g6 f6;obtain⟨S6,zh⟩:∃S6,({ ((S2.attach l true).put y ((nl:Int)+1))with many:=mm+1 }:Sv)=S6:=⟨_,rfl⟩
    have yM:Hid (S6=S2.bu l):=by rw[CZ.out,ju,yD];exact zh.symm
    have hb6:S6.bump=S2.bump:=by rw[<-zh];rfl
    rw[zh]at g6;clear zh hm5;go_upto_region 9 with fail;go_wp2_with fail;obtain⟨w6,uq⟩:∃w6,w5.setCell ⟨L.a,11,none⟩ (.int .i64 (mm+1))=w6:=⟨_,rfl⟩
    rw[uq]at g6 f6⊢;have H6:=aa g6;have jo:=aa (aO.aQ oQ.out kO.out f6);clear uq g6 f6 b11 f11 uU yD;obtain⟨-,-,-,-,-,-,-,-,-,-,RE,-⟩:=H6.out.cells;rw[oQ.out.1]at RE;have f10:=H6.out.obj.frozen 10;rw[oQ.out.1]at f10;have Iw:S6.bump=S.bump:=hb6.trans EK;rw[Iw]at RE;obtain⟨bb,tS⟩:∃bb,S.bump=bb:=⟨_,rfl⟩
    rw[tS]at RE hbu;have FW:=aa (Iw.trans tS);have uw:=Dj bb;have Uz:IntKind.i64.wrap ((bb:Int)+((bb/16:Nat):Int))=(bb:Int)+((bb/16:Nat):Int):=IntWalk.i64_in _ (by omega);have Og:IntKind.i64.wrap ((bb:Int)+((bb/16:Nat):Int)+1)=(bb:Int)+((bb/16:Nat):Int)+1:=IntWalk.i64_in _ (by omega);clear Iw tS uw;rcases bv 1073741824 (bb+bb/16+1)with ZG |ZG
    ·have ZE:(1073741824:Int)<(bb:Int)+((bb/16:Nat):Int)+1:=(by omega)
     have yt:Hid (min (bb+bb/16+1) 1073741824=1073741824):=Nat.min_eq_right (by omega);clear ZG;go_upto_region 10 with fail;go_region;obtain⟨g7,f7⟩:=H6.out.qe 10 (.int .i64 ((1073741824:Nat):Int)) { S6 with bump:=1073741824 } (by simp[pM]) ⟨rfl,rfl,rfl,rfl,rfl,rfl,rfl⟩;rw[oQ.out.1]at g7 f7;have h8:=g7.keep (Fr.refl [] _).drew;have xv:({ S6 with bump:=1073741824 }:Sv)=(S2.bu l).ch:=by rw[<-yM.out];unfold Sv.ch;rw[FW.out,yt.out]
     rw[xv]at h8;have FF:Hid (pz (.bool true) (S2.bu l).ch L w (.returned (.bool true)) _):=⟨rfl,L5,h8,oQ.out,(aO.aQ oQ.out jo.out f7).drew⟩
     clear h8 f7 g7 xv RE f10 Uz Og;go_wp2_with fail;go_ret;exact FF.out
    ·have ZE:(bb:Int)+((bb/16:Nat):Int)+1<=(1073741824:Int):=(by omega)
     have yt:Hid (min (bb+bb/16+1) 1073741824=bb+bb/16+1):=j4 (by omega);have Jr:Hid ((bb:Int)+(bb:Int)/16+1=((bb+bb/16+1:Nat):Int)):=by show _=_;omega
     clear ZG;go_upto_region 10 with fail;go_region;rw[Jr.out];obtain⟨g7,f7⟩:=H6.out.qe 10 (.int .i64 (((bb+bb/16+1):Nat):Int)) { S6 with bump:=(bb+bb/16+1) } (by simp[pM]) ⟨rfl,rfl,rfl,rfl,rfl,rfl,rfl⟩;rw[oQ.out.1]at g7 f7;have h8:=g7.keep (Fr.refl [] _).drew;have xv:({ S6 with bump:=(bb+bb/16+1) }:Sv)=(S2.bu l).ch:=by rw[<-yM.out];unfold Sv.ch;rw[FW.out,yt.out]
     rw[xv]at h8;have FF:Hid (pz (.bool true) (S2.bu l).ch L w (.returned (.bool true)) _):=⟨rfl,L5,h8,oQ.out,(aO.aQ oQ.out jo.out f7).drew⟩
     clear h8 f7 g7 xv RE f10 Uz Og;go_wp2_with fail;go_ret;exact FF.out
def nq (a b:Nat):Nat->Nat->List Int->List Int
 |0,_,ys=>ys
 |n+1,k,ys=>nq a b n (k+1) (cS ys (a+k) (b+k))
theorem Lz {a b n k:Nat}(h:k<n)(ys:List Int):nq a b (n-k) k ys=nq a b (n-(k+1)) (k+1) (cS ys (a+k) (b+k)):=by rw[show n-k=(n-(k+1))+1 by omega,nq]
theorem Pd (a b n:Nat)(ys:List Int):nq a b (n-n) n ys=ys:=by rw[Nat.sub_self,nq]
def tI (q:Int->Int->Int)(a:Nat):Nat->List Int->List Int
 |0,ys=>ys
 |j+1,ys=>if a<j+1/\q ys[j+1]! ys[j]! <0 then tI q a j (cS ys (j+1) j)else ys
def po (q:Int->Int->Int)(a:Nat):Nat->Nat->List Int->List Int
 |0,_,ys=>ys
 |n+1,i,ys=>po q a n (i+1) (tI q a i ys)
theorem Mi {q:Int->Int->Int}{a b i:Nat}(h:i<b)(ys:List Int):po q a (b-i) i ys=po q a (b-(i+1)) (i+1) (tI q a i ys):=by rw[show b-i=(b-(i+1))+1 by omega,po]
theorem P7 {q:Int->Int->Int}{a b i:Nat}(h:¬i<b)(ys:List Int):po q a (b-i) i ys=ys:=by rw[show b-i=0 by omega,po]
theorem P5 {q:Int->Int->Int}{a j p:Nat}(hp:j-1=p)(h:a<j){ys:List Int}(hq:q ys[j]! ys[p]! <0):tI q a j ys=tI q a p (cS ys j p):=by
 obtain rfl :j=p+1:=by omega
 rw[tI,aae ⟨h,hq⟩]
theorem Us {q:Int->Int->Int}{a j p:Nat}(hp:j-1=p)(h:a<j){ys:List Int}(hq:¬q ys[j]! ys[p]! <0):tI q a j ys=ys:=by
 obtain rfl :j=p+1:=by omega
 rw[tI,aac (fun e=>hq e.2)]
theorem P6 {q:Int->Int->Int}{a j:Nat}(h:¬a<j)(ys:List Int):tI q a j ys=ys:=by
 cases j with
 |zero=>rfl
 |succ j=>rw[tI,aac (fun e=>h e.1)]
def oq (m:Nat):Nat->Nat->Nat->List Int->List Int
 |0,_,_,ys=>ys
 |f+1,i,j,ys=>if i<j then oq m f i (j-i) (nq (m-i) (m+j-i) i 0 ys)else if i=j then nq (m-i) m i 0 ys else oq m f (i-j) j (nq (m-i) m j 0 ys)
theorem TQ {m f i j:Nat}(hf:0<f)(h:i<j)(ys:List Int):oq m f i j ys=oq m (f-1) i (j-i) (nq (m-i) (m+j-i) i 0 ys):=by
 obtain⟨f,rfl⟩:∃g,f=g+1:=⟨f-1,by omega⟩
 rw[oq,aae h];rfl
theorem TS {m f i:Nat}(hf:0<f)(ys:List Int):oq m f i i ys=nq (m-i) m i 0 ys:=by
 obtain⟨f,rfl⟩:∃g,f=g+1:=⟨f-1,by omega⟩
 rw[oq,aac (by omega),aae rfl]
theorem TR {m f i j:Nat}(hf:0<f)(h:j<i)(ys:List Int):oq m f i j ys=oq m (f-1) (i-j) j (nq (m-i) m j 0 ys):=by
 obtain⟨f,rfl⟩:∃g,f=g+1:=⟨f-1,by omega⟩
 rw[oq,aac (by omega),aac (by omega)];rfl
def sO (t:Nat->Bool):Nat->Nat->Nat->Nat
 |0,i,_=>i
 |f+1,i,j=>if i<j then(if t ((i+j)/2)=true then sO t f ((i+j)/2+1) j else sO t f i ((i+j)/2))else i
theorem Cr {t:Nat->Bool}{f i j h:Nat}(hf:0<f)(tM:i<j)(hh:(i+j)/2=h)(ht:t h=true):sO t f i j=sO t (f-1) (h+1) j:=by
 subst hh;obtain⟨f,rfl⟩:∃g,f=g+1:=⟨f-1,by omega⟩
 rw[sO,aae tM,aae ht];rfl
theorem IT {t:Nat->Bool}{f i j h:Nat}(hf:0<f)(tM:i<j)(hh:(i+j)/2=h)(ht:t h=false):sO t f i j=sO t (f-1) i h:=by
 subst hh;obtain⟨f,rfl⟩:∃g,f=g+1:=⟨f-1,by omega⟩
 rw[sO,aae tM,aac (by rw[ht];decide)];rfl
theorem Cs {t:Nat->Bool}{f i j:Nat}(tM:¬i<j):sO t f i j=i:=by
 cases f with
 |zero=>rfl
 |succ f=>rw[sO,aac tM]
def qs:Nat->Nat->List Int->List Int
 |0,_,ys=>ys
 |n+1,k,ys=>qs n (k+1) (cS ys k (k+1))
def OD:Nat->Nat->List Int->List Int
 |0,_,ys=>ys
 |n+1,k,ys=>OD n (k-1) (cS ys k (k-1))
def j7 (q:Int->Int->Int):Nat->List Int->Nat->Nat->Nat->List Int
 |0,xs,_,_,_=>xs
 |N+1,xs,a,m,b=>
  if m-a=1 then qs (sO (fun h=>decide (q xs[h]! xs[a]! <0)) b m b-1-a) a xs
  else if b-m=1 then OD (m-sO (fun h=> !decide (q xs[m]! xs[h]! <0)) b a m) m xs
  else
   let M:=(a+b)/2;let n:=M+m;let s:=sO (fun h=> !decide (q xs[n-1-h]! xs[h]! <0)) b (if M<m then n-b else a) (if M<m then M else m);let E:=n-s;let y1:=if s<m/\m<E then oq m (E-s) (m-s) (E-m) xs else xs;let y2:=if a<s/\s<M then j7 q N y1 a s M else y1
   if M<E/\E<b then j7 q N y2 M E b else y2
theorem O9 {q:Int->Int->Int}{N:Nat}{xs:List Int}{a m b:Nat}(h:m-a=1):j7 q (N+1) xs a m b=qs (sO (fun h=>decide (q xs[h]! xs[a]! <0)) b m b-1-a) a xs:=by rw[j7,aae h]
theorem O8 {q:Int->Int->Int}{N:Nat}{xs:List Int}{a m b:Nat}(h:m-a≠1)(h2:b-m=1):j7 q (N+1) xs a m b=OD (m-sO (fun h=> !decide (q xs[m]! xs[h]! <0)) b a m) m xs:=by rw[j7,aac h,aae h2]
theorem O2 {k p k1:Nat}(h:k<p)(hk:k+1=k1)(ys:List Int):qs (p-k) k ys=qs (p-k1) k1 (cS ys k k1):=by subst hk;rw[show p-k=(p-(k+1))+1 by omega,qs]
theorem TI {k p:Nat}(h:¬k<p)(ys:List Int):qs (p-k) k ys=ys:=by rw[show p-k=0 by omega,qs]
theorem Rr {i k k1:Nat}(h:i<k)(hk:k-1=k1)(ys:List Int):OD (k-i) k ys=OD (k1-i) k1 (cS ys k k1):=by subst hk;rw[show k-i=(k-1-i)+1 by omega,OD]
theorem V0 {i k:Nat}(h:¬i<k)(ys:List Int):OD (k-i) k ys=ys:=by rw[show k-i=0 by omega,OD]
def Pb (xs:List Int)(s m E:Nat):List Int:=if s<m/\m<E then oq m (E-s) (m-s) (E-m) xs else xs
def Bf (q:Int->Int->Int)(N:Nat)(y:List Int)(a s M:Nat):List Int:=if a<s/\s<M then j7 q N y a s M else y
theorem Pa {q:Int->Int->Int}{N:Nat}{xs:List Int}{a m b M n p s E:Nat}{t:Nat->Bool}(h:m-a≠1)(h2:b-m≠1)(hM:(a+b)/2=M)(hn:M+m=n)(hp:n-1=p)(ht:(fun h=> !decide (q xs[p-h]! xs[h]! <0))=t)
  (hs:sO t b (if M<m then n-b else a) (if M<m then M else m)=s)(hE:n-s=E):j7 q (N+1) xs a m b=Bf q N (Bf q N (Pb xs s m E) a s M) M E b:=by
 subst hM hn hp ht hs hE;rw[j7,aac h,aac h2];rfl
def yb (q:Int->Int->Int)(n:Nat):Nat->Nat->List Int->List Int
 |0,_,ys=>ys
 |f+1,a,ys=>if a+20<=n then yb q n f (a+20) (po q a (a+20-(a+1)) (a+1) ys)else po q a (n-(a+1)) (a+1) ys
theorem RB {q:Int->Int->Int}{n f a b:Nat}(hf:0<f)(hb:a+20=b)(h:b<=n)(ys:List Int):yb q n f a ys=yb q n (f-1) b (po q a (b-(a+1)) (a+1) ys):=by
 subst hb;obtain⟨f,rfl⟩:∃g,f=g+1:=⟨f-1,by omega⟩
 rw[yb,aae h];rfl
theorem V6 {q:Int->Int->Int}{n f a b:Nat}(hf:0<f)(hb:a+20=b)(h:¬b<=n)(ys:List Int):yb q n f a ys=po q a (n-(a+1)) (a+1) ys:=by
 subst hb;obtain⟨f,rfl⟩:∃g,f=g+1:=⟨f-1,by omega⟩
 rw[yb,aac h]
def sd (q:Int->Int->Int)(n k:Nat):Nat->Nat->List Int->List Int
 |0,_,ys=>ys
 |f+1,a,ys=>if a+2*k<=n then sd q n k f (a+2*k) (j7 q n ys a (a+k) (a+2*k))else if a+k<n then j7 q n ys a (a+k) n else ys
theorem PQ {q:Int->Int->Int}{n k f a b m k2:Nat}(hf:0<f)(hk:2*k=k2)(hb:a+k2=b)(hm:a+k=m)(h:b<=n)(ys:List Int):sd q n k f a ys=sd q n k (f-1) b (j7 q n ys a m b):=by
 subst hk hb hm;obtain⟨f,rfl⟩:∃g,f=g+1:=⟨f-1,by omega⟩
 rw[sd,aae h];rfl
theorem PR {q:Int->Int->Int}{n k f a b m k2:Nat}(hf:0<f)(hk:2*k=k2)(hb:a+k2=b)(hm:a+k=m)(h:¬b<=n)(h2:m<n)(ys:List Int):sd q n k f a ys=j7 q n ys a m n:=by
 subst hk hb hm;obtain⟨f,rfl⟩:∃g,f=g+1:=⟨f-1,by omega⟩
 rw[sd,aac h,aae h2]
theorem Ue {q:Int->Int->Int}{n k f a b m k2:Nat}(hf:0<f)(hk:2*k=k2)(hb:a+k2=b)(hm:a+k=m)(h:¬b<=n)(h2:¬m<n)(ys:List Int):sd q n k f a ys=ys:=by
 subst hk hb hm;obtain⟨f,rfl⟩:∃g,f=g+1:=⟨f-1,by omega⟩
 rw[sd,aac h,aac h2]
def wQ (q:Int->Int->Int)(n:Nat):Nat->Nat->List Int->List Int
 |0,_,ys=>ys
 |f+1,k,ys=>if k<n then wQ q n f (2*k) (sd q n k (n+1) 0 ys)else ys
theorem PP {q:Int->Int->Int}{n f k k2:Nat}(hf:0<f)(h:k<n)(hk:2*k=k2)(ys:List Int):wQ q n f k ys=wQ q n (f-1) k2 (sd q n k (n+1) 0 ys):=by
 subst hk;obtain⟨f,rfl⟩:∃g,f=g+1:=⟨f-1,by omega⟩
 rw[wQ,aae h];rfl
theorem Ud {q:Int->Int->Int}{n f k:Nat}(h:¬k<n)(ys:List Int):wQ q n f k ys=ys:=by
 cases f with
 |zero=>rfl
 |succ f=>rw[wQ,aac h]
def TL (q:Int->Int->Int)(xs:List Int):List Int:=wQ q xs.length (xs.length+1) 20 (yb q xs.length (xs.length+1) 0 xs)
def Fg (S:Sv)(x y:Int):Int:=wrap64 ((S.rc x.toNat).act-(S.rc y.toNat).act)
def Sv.XI (S:Sv):List Nat:=((TL (Fg S) (bO S.tj)).map Int.toNat).take (S.tj.length/2)
namespace Sv
def I6 (S S':Sv):Prop:=∃D:List Nat,D.Nodup/\(∀n∈D,n∈S.tj)/\(D.length=S.tj.length/2/\D=S.XI)/\S'=D.foldl cg S
structure Small (S:Sv):Prop where
 list:S.list.length<2199023255552
 used:S.used<2199023255552
 bump:S.bump<=1073741824
 PT: -1152921504606846976<=S.many
 many1:S.many<=1152921504606846976
 lim:S.bQ<=2199023255552
 ct:S.T.levels.length<=4398046511104
 core:S.core=[]
def fQ (S:Sv):Sv:={ S with bQ:=S.bQ+(S.bQ/16+1) }
def zS (red:Bool)(S:Sv)(K:Sv->Prop):Prop:=
 if(S.bQ:Int)<S.many then(if red=true then ∀S',I6 S S'->K S'.fQ else False)else K S
def IZ (budget:Int)(n:Nat)(Q:Sv->Int->Prop)(K:Sv->Prop):Option (Sv×Bool)->Prop
 |none=>False
 |some (S2,false)=>Q S2 2
 |some (S2,true)=>if budget<(n+1:Nat)then Q S2 0 else K S2
def cO (S:Sv):Sv:={ S with used:=S.used+1 }
def iE (red:Bool)(budget:Int)(us:List Int)(Q:Sv->Int->Prop)(K:Nat->Nat->Sv->Prop):Nat->Nat->Nat->Sv->Prop
 |0,_,_,_=>False
 |d+1,next,n,S=>
  S.Small/\n<2199023255552/\next <4398046511104/\
  match S.follow.2 with
  |some c=>IZ budget n Q (K next (n+1)) (S.follow.1.cO.conflict c)
  |none=>zS red (S.follow.1.dt n next) fun S3=>
    if(S3.aR us).2=0 then iE red budget us Q K d (if next <=n then n+64 else next) n (S3.aR us).1 else Q (S3.aR us).1 (S3.aR us).2
def fe (red:Bool)(budget:Int)(us:List Int)(Q:Sv->Int->Prop)(D:Nat):Nat->Nat->Nat->Sv->Prop
 |0,_,_,_=>False
 |c+1,next,n,S=>iE red budget us Q (fe red budget us Q D c) D next n S
theorem AQ {S:Sv}{n:Nat}(h:n∈S.tj):n<S.list.length/\(S.rc n).jr=true/\2<(S.rc n).lits.length/\S.locked n=false:=by unfold tj at h;rw[dx,cH]at h;obtain⟨h1,h2⟩:=h;simp only[ax,aal,j6]at h2;exact⟨h1,h2.1.1,h2.1.2,h2.2⟩
theorem ff (S:Sv)(n j:Nat):(S.cg n).rc j=if n=j/\n<S.list.length then⟨[],false,(S.rc n).act⟩else S.rc j:=ef _ _ _ _
theorem Ok.cg {S:Sv}{m:Nat}(ok:S.Ok m)(n:Nat):(S.cg n).Ok m:=by
 have el:(S.cg n).list.length=S.list.length:=by simp[Sv.cg]
 refine⟨ok.vl,ok.tr,ok.hi,ok.hl,ok.ph,ok.wl,by rw[el];exact ok.ll,fun c k hk=>by rw[el];exact ok.wb c k hk,by rw[el];exact ok.wt,fun j x hx=> ?_,fun j=> ?_,fun j=> ?_,ok.hd,fun v=>by rw[el];exact ok.rs v⟩
 ·rw[ff]at hx;split at hx
  ·simp at hx
  ·exact ok.lr j x hx
 ·rw[ff];split
  ·simp
  ·exact ok.ln j
 ·rw[ff];split
  ·simp
  ·exact ok.lb j
theorem Ok.Rp {m:Nat}:∀(D:List Nat) (S:Sv),S.Ok m->(D.foldl Sv.cg S).Ok m
 |[],S,ok=>ok
 |n::r,S,ok=>Ok.Rp r _ (ok.cg n)
theorem lp:∀(D:List Nat) (S:Sv),(D.foldl cg S).T=S.T/\(D.foldl cg S).vars=S.vars/\(D.foldl cg S).list.length=S.list.length/\(D.foldl cg S).core=S.core/\(D.foldl cg S).bQ=S.bQ/\(D.foldl cg S).many=S.many-D.length
 |[],S=>⟨rfl,rfl,rfl,rfl,rfl,by simp⟩
 |n::r,S=>by have h:=lp r (S.cg n);refine⟨h.1,h.2.1,h.2.2.1.trans (by simp[cg]),h.2.2.2.1,h.2.2.2.2.1,h.2.2.2.2.2.trans ?_⟩;simp only[cW,cg];omega
theorem Ok.fQ {S:Sv}{m:Nat}(ok:S.Ok m):S.fQ.Ok m:=⟨ok.vl,ok.tr,ok.hi,ok.hl,ok.ph,ok.wl,ok.ll,ok.wb,ok.wt,ok.lr,ok.ln,ok.lb,ok.hd,ok.rs⟩
theorem Ok.cO {S:Sv}{m:Nat}(ok:S.Ok m):S.cO.Ok m:=⟨ok.vl,ok.tr,ok.hi,ok.hl,ok.ph,ok.wl,ok.ll,ok.wb,ok.wt,ok.lr,ok.ln,ok.lb,ok.hd,ok.rs⟩
theorem Ok.dt {S:Sv}{m:Nat}(ok:S.Ok m)(n next :Nat):(S.dt n next).Ok m:=by
 unfold Sv.dt;split
 ·exact(ok.back 0).1
 ·exact ok
theorem ue {S:Sv}{m:Nat}(ok:S.Ok m)(n next :Nat):(S.dt n next).vars=S.vars/\(S.dt n next).list=S.list/\(S.dt n next).core=S.core/\(S.dt n next).many=S.many/\(S.dt n next).bQ=S.bQ/\(S.dt n next).T.levels.length<=S.T.levels.length:=by
 unfold Sv.dt;split
 ·have h:=jF S 0;have h2:=ok.back 0;exact⟨h2.2.1,h2.2.2,h.1,h.2.2.1,h.2.2.2.1,h.2.2.2.2.2.1⟩
 ·exact⟨rfl,rfl,rfl,rfl,rfl,ap _⟩
theorem Ok.conflict {S:Sv}(ok:S.Ok 0)(hl:S.list.length<2199023255552){n:Nat}{S':Sv}{b:Bool}(h:S.conflict n=some (S',b)):S'.Ok 0/\S'.vars=S.vars:=by
 unfold Sv.conflict at h;split at h
 ·simp only[Option.some.injEq,Prod.mk.injEq]at h;obtain⟨rfl,rfl⟩:=h;exact⟨ok.Bm true,rfl⟩
 ·cases hq:S.fL n with
  |none=>rw[hq]at h;cases h
  |some q=>
   obtain⟨S1,l,ct⟩:=q;rw[hq]at h;simp only[Option.some.injEq,Prod.mk.injEq]at h;obtain⟨rfl,rfl⟩:=h;obtain⟨tA,eT,eV,eL,eU,l0,l1,lr,adf,ade⟩:=gx ok hq;obtain⟨ok2,eV2,XR⟩:=tA.back ct.toNat;have e2:(S1.back ct.toNat).vars=S.vars:=eV2.trans eV;have qh:(S1.back ct.toNat).list.length<2199023255552:=by rw[XR,eL];exact hl
   refine⟨(ok2.bu l0 l1 (by rw[e2];exact lr) qh).ch,?_⟩;show((S1.back ct.toNat).bu l).vars=_;rw[<-e2];unfold Sv.bu;split
   ·rfl
   ·exact(cE _ l true).2.1
end Sv
end Go.Proofs.YtjmmpfjcpdepjaaGreatDoor
