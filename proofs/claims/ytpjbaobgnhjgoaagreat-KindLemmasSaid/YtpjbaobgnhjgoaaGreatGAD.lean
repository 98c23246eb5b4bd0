/- Parts of a proof. -/
import Derived.Test.YtpjbaobgnhjgoaaGreatGAC
set_option linter.unusedVariables false
set_option linter.unusedSimpArgs false
set_option maxHeartbeats 8000000
set_option maxRecDepth 100000
namespace Go.Proofs.YtpjbaobgnhjgoaaGreat
open Go.RowKit
theorem bh.swap{w:World}{L:aO}{S:Sv}(h:bh w L S){n i j:Nat}(hn:n<L.cs.length)(hi:i<(L.cs[n]!).lits.length)(hj:j<(L.cs[n]!).lits.length){g:Nat}(hg:(L.cs[n]!).A=some ⟨g,0,none⟩):
  ∃L',bh ((w.setCell ⟨g,i,none⟩ (.int .i64 ((L.cs[n]!).lits[j]!))).setCell ⟨g,j,none⟩ (.int .i64 ((L.cs[n]!).lits[i]!))).drew L' (S.fg n (dK (L.cs[n]!).lits i j))/\L.ext L' w/\
   Fr (L.own w) w ((w.setCell ⟨g,i,none⟩ (.int .i64 ((L.cs[n]!).lits[j]!))).setCell ⟨g,j,none⟩ (.int .i64 ((L.cs[n]!).lits[i]!))).drew/\L'.cs=L.cs.set n { L.cs[n]! with lits:=dK (L.cs[n]!).lits i j }/\L'.tL=L.tL:=by
 have hr:=h.qM n hn;have J:=hr;rw[hg]at J;have hI:=((J.dL i ((L.cs[n]!).lits[j]!)).dL j ((L.cs[n]!).lits[i]!)).drew;have hf:Fr [g] w ((w.setCell ⟨g,i,none⟩ (.int .i64 ((L.cs[n]!).lits[j]!))).setCell ⟨g,j,none⟩ (.int .i64 ((L.cs[n]!).lits[i]!))).drew:=(((Fr.refl [g] w).setCell (.inl (by simp)) _).setCell (.inl (by simp)) _).drew;obtain⟨L',h1,h2,h3,h4,h5,h6,h7⟩:=h.Y7 hn (ls:=dK (L.cs[n]!).lits i j) (F:=[g]) (by rw[hg];exact hI) (gH _ _ _) hf (fun k hk _=>by simp at hk;subst hk;exact h.t8 n hn k (by rw[hg];simp[ao]));exact⟨L',h1,h2,h3,h4,h7⟩
theorem FG(w:World)(L:aO)(S:Sv)(h:bh w L S)(m:Nat)(ok:S.Ok (m+1))(n:Nat)(hn:n<S.list.length)(off:Int):
  Calls Tryz.prog 137 #[.pointer (some ⟨L.a,0,none⟩), .int .i64 n, .int .i64 off] w (pB (.tuple #[.bool (S.dC n off).2.1, .bool (S.dC n off).2.2]) (S.dC n off).1 L w):=by
 have um:n<L.cs.length:=by rw[h.pN];exact hn
 have fJ:=h.sh um;obtain⟨gc,km,x0,-,-⟩:=h.sg um;have iP:=h.qM n um;have AH:=ok.ln n;have sQ:=ok.lb n;have gY:=fun k hk=>ok.lit (n:=n) (k:=k) hk;rw[fJ]at AH sQ gY;simp only[Cw.rc]at AH sQ gY;have vV:=ae (fun i j g h1 h2 h3=>h.swap (i:=i) (j:=j) (g:=g) um h1 h2 h3);obtain⟨⟨A,c,l,b,ac⟩,hx⟩:∃x,L.cs[n]! =x:=⟨_,rfl⟩
 rw[hx]at fJ x0 iP AH sQ gY vV;simp only[Cw.rc]at fJ x0 iP AH sQ gY vV;have mW:=ae iP;have HH:=ae h;have lh:=ae ok;have b0:=ok.vl;have nV:=ok.ll;obtain⟨c0,-,-,c3,-⟩:=h.cells;rw[km]at c3;have vZ:=ae c0;have Z4:=ae (show(S.rc n).lits=l by rw[fJ]);obtain⟨VF,bj⟩:∃VF,S.dC n off=VF:=⟨_,rfl⟩
 have ZY:=ae bj;rw[bj];have pT:aj (∀(S':Sv)(r1 r2:Bool),VF=(S',r1,r2)->∀W L',bh W L' S'->L.ext L' w->Fr (L.own w) w W->pB (.tuple #[.bool VF.2.1, .bool VF.2.2]) VF.1 L w (.returned (.tuple #[.bool r1, .bool r2])) W):=fun S' r1 r2 e W L' g1 g2 g3=>by subst e;exact⟨rfl,L',g1,g2,g3⟩
 have Yx:=ae hn;have No:=h.pN;have b2:aj (L.cs.length=S.list.length):=No;clear bj fJ iP h hx;by_cases uZ:l.length=0
 ·have Q6:aj (VF=(S,false,true)):=(by rw[<-ZY.o];unfold Sv.dC;rw[qai (by rw[Z4.o];exact uZ)]:VF=(S,false,true))
  have F0:=ae (fun W hW=>pT.o S false true Q6.o W L (HH.o.keep hW) (aO.cw _ _) (hW.mono (fun k hk=>by cases hk)));have hd:((l.length:Int)==0)=true:=by simp[uZ]
  clear ZY Q6 pT vV;go_enter Tryz.func137,Tryz.ntmps137;go_wp2;go_ret2;exact F0.o _ (Fr.refl _ _)
 ·have pJ:2<=l.length:=by omega
  have b1:0<l.length:=by omega
  have b3:1<l.length:=by omega
  have hd:((l.length:Int)==0)=false:=by rw[aab];omega
  have Qg:aj (VF=(S.cY n off).gM n):=(by rw[<-ZY.o];unfold Sv.dC;rw[qah (by rw[Z4.o];exact uZ)]:VF=(S.cY n off).gM n)
  obtain⟨gb,hA,wX⟩:=mW.o.pos (i:=0) (by omega);subst hA;have Jl:=mW.o.cell (i:=0) (by omega);have PW:=mW.o.cell (i:=1) (by omega);have bI:=mW.o.frozen 0;have bO:=mW.o.frozen 1;have Mi:=ae gY;clear gY ZY;by_cases xI:l[0]! =off
  ·have HT:aj (S.cY n off=S.fg n (dK l 0 1)):=(by unfold Sv.cY;rw[Z4.o,qai xI]:S.cY n off=S.fg n (dK l 0 1))
   have bt:=lh.o.cY n off;have bB:=Sv.qd S n off;rw[HT.o]at bt bB Qg;have bG:((S.fg n (dK l 0 1)).rc n).lits=dK l 0 1:=by rw[Sv.nc,qai ⟨rfl,Yx.o⟩]
   have GP:(dK l 0 1)[0]! =l[1]! :=by rw[n9 (by omega) (by omega) (by omega)];simp
   obtain⟨y0,lf⟩:∃y,l[0]! =y:=⟨_,rfl⟩
   obtain⟨y1,iO⟩:∃y,l[1]! =y:=⟨_,rfl⟩
   have Fk:=Mi.o 1 (by omega);obtain⟨L1,g1,g2,g3,g4,g5⟩:=vV.o 0 1 gb (by omega) (by omega) rfl;have Jk:=((mW.o.dL 0 l[1]!).dL 1 l[0]!).drew.cell (i:=0) (by simp;omega);rw[iO]at GP Fk;rw[lf,iO]at g1 g3 Jk;rw[lf]at Jl xI;rw[iO]at PW;have Jk:((w.setCell ⟨gb,0,none⟩ (.int .i64 y1)).setCell ⟨gb,1,none⟩ (.int .i64 y0)).drew.cell? ⟨gb,0,none⟩=some (.int .i64 y1):=by rw[Jk];simp only[aa];rw[gW (by omega),kj (by omega)];rfl
   have hb:(y0==off)=true:=by simp[xI]
   have G1:=ae g1;have G2:=ae g2;have G3:=ae g3;have Oc:=ae Jk;have UA:=ae bt;have Yp:=ae bB;have bb:=ae bG;have Q4:=ae GP;clear g1 g2 g3 g4 g5 Jk bt bB bG GP xI lf iO HT;go_enter Tryz.func137,Tryz.ntmps137;go_upto_region 5 with fail;go_region;go_upto_region 6 with fail;obtain⟨W1,iQ⟩:∃W,((w.setCell ⟨gb,0,none⟩ (.int .i64 y1)).setCell ⟨gb,1,none⟩ (.int .i64 y0)).drew=W:=⟨_,rfl⟩
   rw[iQ]at G1 G3 Oc⊢;obtain⟨J,Jj⟩:∃J,S.fg n (dK l 0 1)=J:=⟨_,rfl⟩
   rw[Jj]at G1 Qg UA Yp bb;rw[<-bb.o]at Q4;clear iQ Jj bb c0 c3 x0 Jl PW bI bO vV mW hb hd HH;have hT:=Yp.o.1;have rP:n<J.list.length:=by rw[Yp.o.2.2.1];exact Yx.o
   have xq:=ae rP;have c0:=G1.o.cells.1;rw[G2.o.1]at c0;have U8:=ae c0;have UD:=ae UA.o.small;have LV:=ae (fun u:Ext W1=>eN u.v L1.tL J.T (G1.o.tr.fr u.fr (by simp)) y1 (by omega) (by omega) UD.o);obtain⟨v,hv⟩:∃v,J.T.mQ y1=v:=⟨_,rfl⟩
   have AO:=ae hv;simp only[hv]at LV;have e0:=Ext.cell c0;have ey:=Ext.cell Oc.o;clear hv hT rP;by_cases hp:0<v
   ·have hd:decide (0<v)=true:=qak hp;have Bu:aj (VF=(J,true,true)):=(by rw[Qg.o];unfold Sv.gM;simp only[Q4.o];rw[qai (by unfold Sv.val;rw[AO.o];omega)]:VF=(J,true,true))
    refine ap ?_;repeat (go_big_quiet_step (exact bp (LV.o _)))
    refine fq ?_;intro w2 aT;have FF:=ae (pT.o _ true true Bu.o w2 L1 (G1.o.keep aT.o) G2.o (G3.o.ak (aT.o.mono (fun k hk=>by cases hk))));clear e0 ey c0;go_wp2;go_ret2;exact FF.o
   ·have hd:decide (0<v)=false:=qaj hp;refine ap ?_;repeat (go_big_quiet_step (exact bp (LV.o _)))
    refine fq ?_;intro w2 aT;clear e0 ey c0;have ab:=ae (G1.o.keep aT.o);have Ay:=wH w2 L1 J ab.o (m+1) UA.o n xq.o;rw[G2.o.1]at Ay;have Ay:=ae Ay;go_wp2_with fail;refine Ay.o.mono ?_;clear Ay;rintro e w3 bo;rcases bo with⟨rfl,hq,dN⟩ |⟨rfl,hq,L2,h2,jZ,cE⟩
    ·have Jq:=ae hq;have dG:=ae (aT.o.ak dN);have ad:=ae (ab.o.keep dN);clear hq dN ab;have c0:=dG.o.aF U8.o;have cy:=dG.o.aF Oc.o;have e0:=Ext.cell c0;have ey:=Ext.cell cy;have LU:=ae (fun u:Ext w3=>eN u.v L1.tL J.T (ad.o.tr.fr u.fr (by simp)) y1 (by omega) (by omega) UD.o);simp only[AO.o]at LU;by_cases ar:v<0
     ·have xM:decide (v<0)=true:=qak ar;have Bu:aj (VF=(J,true,false)):=(by rw[Qg.o];unfold Sv.gM;simp only[Q4.o];rw[qah (by unfold Sv.val;rw[AO.o];omega),qah (by rw[Jq.o];simp),qai (by unfold Sv.val;rw[AO.o];omega)]:VF=(J,true,false))
      go_upto_region 10 with fail;refine ap ?_;repeat (go_big_quiet_step (exact bp (LU.o _)))
      refine fq ?_;intro w4 cG;have ic:=ae (dG.o.ak cG.o);have FF:=ae (pT.o _ true false Bu.o w4 L1 (ad.o.keep cG.o) G2.o (G3.o.ak (ic.o.mono (fun k hk=>by cases hk))));clear e0 ey c0 cy;go_wp2;go_ret2;exact FF.o
     ·have xM:decide (v<0)=false:=qaj ar;go_upto_region 10 with fail;refine ap ?_;repeat (go_big_quiet_step (exact bp (LU.o _)))
      refine fq ?_;intro w4 cG;have ic:=ae (dG.o.ak cG.o);have G4:=ae (ad.o.keep cG.o);have Qx:=ae (ic.o.aF U8.o);have aB:=ae (ic.o.aF Oc.o);have aK:aj (J.T.lits.length<17592186044416):=by
       obtain⟨R,hR⟩:=UA.o.tr;have h1:=hR.io;have h2:J.T.lits.length=R.length:=(by rw[hR.lits,aG])
       have h3:=UA.o.vl;show _<_;omega
      have bg:=ae (fun W (hW:Fr [] w4 W)=>qaf W L1.tL J.T (G4.o.tr.fr hW (by simp)) y1 ((n:Int)+1) (by omega) (by omega) aK.o);have uX:n<2199023255552:=by have :=Yx.o;omega
      have eo:IntKind.i64.wrap ((n:Int)+1)=(n:Int)+1:=IntWalk.i64_in _ (by omega);clear e0 ey c0 cy;go_upto_region 12 with fail;refine qan ?_;refine bw (fun w':World=>Fr [] w4 w') 9 (by kernel_rfl) ((Fr.refl [] w4).drew) (fun dy=> ?_);refine oI 9 [(0,[]),(1,[]),(2,[]),(3,[3,9]),(4,[]),(5,[]),(6,[6,9]),(7,[]),(8,[])] dy (fun w bT=>And.intro (bT.aF Qx.o) (bT.aF aB.o)) ?_;intro dy;refine R2 9 dy fun K hK aM=> ?_
      (go_simp;refine(bg.o _ aM).mono ?_;rintro e w5 ⟨rfl,bS,SD,ba,a1⟩;dsimp only)
      refine hK.out _ _ (.inl rfl) (fun kG=> ?_);clear hK K;try simp only[Act.put,q5,q6,q7]
      refine fO ?_;have g4:=G4.o.keep aM;obtain⟨L5,h5,yn,fT⟩:=g4.yL SD ba a1;have Bu:aj (VF=(J.put y1 (n+1),true,true)):=(by rw[Qg.o];unfold Sv.gM;simp only[Q4.o];rw[qah (by unfold Sv.val;rw[AO.o];omega),qah (by rw[Jq.o];simp),qah (by unfold Sv.val;rw[AO.o];omega)]:VF=(J.put y1 (n+1),true,true))
      have hz:w.heap.size<=w4.heap.size:=aE G3.o.size ic.o.size;have hE:L.ext L5 w:=by refine⟨yn.1.trans G2.o.1,yn.2.1.trans G2.o.2.1,fun k hk e=>G2.o.2.2 k hk ?_⟩;have :=yn.2.2 k (aS hk (aE hz aM.size)) (e.trans G2.o.2.1.symm);exact this.trans G2.o.2.1
      have hF:Fr (L.own w) w w5:=aO.aQ G2.o G3.o (((ic.o.ak aM).mono (fun k hk=>by cases hk)).trans fT (fun k hk=>by
       rw[aO.cj]at hk;rcases bN k W1.heap.size with hl |hl
       ·exact .inl (aO.cj.2 ⟨hl,hk.2⟩)
       ·exact .inr hl))
      have FF:=ae (pT.o _ true true Bu.o w5 L5 h5 hE hF);go_wp2;go_ret2;exact FF.o
    ·have Bu:aj (VF=((J.dO n).1,false,true)):=(by rw[Qg.o];unfold Sv.gM;simp only[Q4.o];rw[qah (by unfold Sv.val;rw[AO.o];omega),qai hq]:VF=((J.dO n).1,false,true))
     have hz:w.heap.size<=w2.heap.size:=aE G3.o.size aT.o.size;have hE:L.ext L2 w:=by refine⟨jZ.1.trans G2.o.1,jZ.2.1.trans G2.o.2.1,fun k hk e=>G2.o.2.2 k hk ?_⟩;have :=jZ.2.2 k (aS hk hz) (e.trans G2.o.2.1.symm);exact this.trans G2.o.2.1
     have hF:Fr (L.own w) w w3:=aO.aQ G2.o G3.o ((aT.o.mono (fun k hk=>by cases hk)).trans cE (fun k hk=>by
      rw[aO.cj]at hk;rcases bN k W1.heap.size with hl |hl
      ·exact .inl (aO.cj.2 ⟨hl,hk.2⟩)
      ·exact .inr hl))
     have FF:=ae (pT.o _ false true Bu.o w3 L2 h2 hE hF);clear hq h2 jZ cE;go_wp2;go_ret2;exact FF.o
  ·have HT:aj (S.cY n off=S):=(by unfold Sv.cY;rw[Z4.o,qah xI]:S.cY n off=S)
   rw[HT.o]at Qg;obtain⟨y1,iO⟩:∃y,l[0]! =y:=⟨_,rfl⟩
   have Fk:=Mi.o 0 (by omega);rw[iO]at Fk Jl xI;have hb:(y1==off)=false:=by simp[xI]
   have Oc:=ae Jl;have Q4:aj ((S.rc n).lits[0]! =y1):=(by rw[Z4.o];exact iO:(S.rc n).lits[0]! =y1)
   have G1:=HH;have G2:=ae (aO.cw L w);have G3:aj (Fr (L.own w) w w):=Fr.refl _ _;have UA:=lh;have Yp:aj (S.T=S.T/\S.vars=S.vars/\S.list.length=S.list.length/\S.head=S.head/\S.H=S.H/\S.watch=S.watch):=⟨rfl,rfl,rfl,rfl,rfl,rfl⟩
   obtain⟨L1,xP⟩:∃L1,L1=L:=⟨_,rfl⟩
   have G1:aj (bh w L1 S):=by rw[xP];exact HH.o
   have G2:aj (L.ext L1 w):=by rw[xP];exact aO.cw L w
   obtain⟨W1,iQ⟩:∃W1,W1=w:=⟨_,rfl⟩
   obtain⟨J,Jj⟩:∃J,J=S:=⟨_,rfl⟩
   clear xI iO HT vV mW Mi;go_enter Tryz.func137,Tryz.ntmps137;go_upto_region 6 with fail;rw[<-Jj]at UA;have Yp:aj (J.T=S.T/\J.vars=S.vars/\J.list.length=S.list.length/\J.head=S.head/\J.H=S.H/\J.watch=S.watch):=by rw[Jj];exact⟨rfl,rfl,rfl,rfl,rfl,rfl⟩
   have G1:aj (bh W1 L1 J):=by rw[iQ,Jj];exact G1.o
   have G3:aj (Fr (L.own w) w W1):=by rw[iQ];exact G3.o
   have Oc:aj (W1.cell? ⟨gb,0,none⟩=some (.int .i64 y1)):=by rw[iQ];exact Oc.o
   have Q4:aj ((J.rc n).lits[0]! =y1):=by rw[Jj];exact Q4.o
   have Qg:aj (VF=J.gM n):=by rw[Jj];exact Qg.o
   rw[show Code.wp _ _ _ _ w=Code.wp _ _ _ _ W1 from by rw[iQ]];clear iQ Jj xP c0 c3 x0 Jl PW bI bO hb hd HH;have hT:=Yp.o.1;have rP:n<J.list.length:=by rw[Yp.o.2.2.1];exact Yx.o
   have xq:=ae rP;have c0:=G1.o.cells.1;rw[G2.o.1]at c0;have U8:=ae c0;have UD:=ae UA.o.small;have LV:=ae (fun u:Ext W1=>eN u.v L1.tL J.T (G1.o.tr.fr u.fr (by simp)) y1 (by omega) (by omega) UD.o);obtain⟨v,hv⟩:∃v,J.T.mQ y1=v:=⟨_,rfl⟩
   have AO:=ae hv;simp only[hv]at LV;have e0:=Ext.cell c0;have ey:=Ext.cell Oc.o;clear hv hT rP;by_cases hp:0<v
   ·have hd:decide (0<v)=true:=qak hp;have Bu:aj (VF=(J,true,true)):=(by rw[Qg.o];unfold Sv.gM;simp only[Q4.o];rw[qai (by unfold Sv.val;rw[AO.o];omega)]:VF=(J,true,true))
    refine ap ?_;repeat (go_big_quiet_step (exact bp (LV.o _)))
    refine fq ?_;intro w2 aT;have FF:=ae (pT.o _ true true Bu.o w2 L1 (G1.o.keep aT.o) G2.o (G3.o.ak (aT.o.mono (fun k hk=>by cases hk))));clear e0 ey c0;go_wp2;go_ret2;exact FF.o
   ·have hd:decide (0<v)=false:=qaj hp;refine ap ?_;repeat (go_big_quiet_step (exact bp (LV.o _)))
    refine fq ?_;intro w2 aT;clear e0 ey c0;have ab:=ae (G1.o.keep aT.o);have Ay:=wH w2 L1 J ab.o (m+1) UA.o n xq.o;rw[G2.o.1]at Ay;have Ay:=ae Ay;go_wp2_with fail;refine Ay.o.mono ?_;clear Ay;rintro e w3 bo;rcases bo with⟨rfl,hq,dN⟩ |⟨rfl,hq,L2,h2,jZ,cE⟩
    ·have Jq:=ae hq;have dG:=ae (aT.o.ak dN);have ad:=ae (ab.o.keep dN);clear hq dN ab;have c0:=dG.o.aF U8.o;have cy:=dG.o.aF Oc.o;have e0:=Ext.cell c0;have ey:=Ext.cell cy;have LU:=ae (fun u:Ext w3=>eN u.v L1.tL J.T (ad.o.tr.fr u.fr (by simp)) y1 (by omega) (by omega) UD.o);simp only[AO.o]at LU;by_cases ar:v<0
     ·have xM:decide (v<0)=true:=qak ar;have Bu:aj (VF=(J,true,false)):=(by rw[Qg.o];unfold Sv.gM;simp only[Q4.o];rw[qah (by unfold Sv.val;rw[AO.o];omega),qah (by rw[Jq.o];simp),qai (by unfold Sv.val;rw[AO.o];omega)]:VF=(J,true,false))
      go_upto_region 10 with fail;refine ap ?_;repeat (go_big_quiet_step (exact bp (LU.o _)))
      refine fq ?_;intro w4 cG;have ic:=ae (dG.o.ak cG.o);have FF:=ae (pT.o _ true false Bu.o w4 L1 (ad.o.keep cG.o) G2.o (G3.o.ak (ic.o.mono (fun k hk=>by cases hk))));clear e0 ey c0 cy;go_wp2;go_ret2;exact FF.o
     ·have xM:decide (v<0)=false:=qaj ar;go_upto_region 10 with fail;refine ap ?_;repeat (go_big_quiet_step (exact bp (LU.o _)))
      refine fq ?_;intro w4 cG;have ic:=ae (dG.o.ak cG.o);have G4:=ae (ad.o.keep cG.o);have Qx:=ae (ic.o.aF U8.o);have aB:=ae (ic.o.aF Oc.o);have aK:aj (J.T.lits.length<17592186044416):=by
       obtain⟨R,hR⟩:=UA.o.tr;have h1:=hR.io;have h2:J.T.lits.length=R.length:=(by rw[hR.lits,aG])
       have h3:=UA.o.vl;show _<_;omega
      have bg:=ae (fun W (hW:Fr [] w4 W)=>qaf W L1.tL J.T (G4.o.tr.fr hW (by simp)) y1 ((n:Int)+1) (by omega) (by omega) aK.o);have uX:n<2199023255552:=by have :=Yx.o;omega
      have eo:IntKind.i64.wrap ((n:Int)+1)=(n:Int)+1:=IntWalk.i64_in _ (by omega);clear e0 ey c0 cy;go_upto_region 12 with fail;refine qan ?_;refine bw (fun w':World=>Fr [] w4 w') 9 (by kernel_rfl) ((Fr.refl [] w4).drew) (fun dy=> ?_);refine oI 9 [(0,[]),(1,[]),(2,[]),(3,[3,9]),(4,[]),(5,[]),(6,[6,9]),(7,[]),(8,[])] dy (fun w bT=>And.intro (bT.aF Qx.o) (bT.aF aB.o)) ?_;intro dy;refine R2 9 dy fun K hK aM=> ?_
      (go_simp;refine(bg.o _ aM).mono ?_;rintro e w5 ⟨rfl,bS,SD,ba,a1⟩;dsimp only)
      refine hK.out _ _ (.inl rfl) (fun kG=> ?_);clear hK K;try simp only[Act.put,q5,q6,q7]
      refine fO ?_;have g4:=G4.o.keep aM;obtain⟨L5,h5,yn,fT⟩:=g4.yL SD ba a1;have Bu:aj (VF=(J.put y1 (n+1),true,true)):=(by rw[Qg.o];unfold Sv.gM;simp only[Q4.o];rw[qah (by unfold Sv.val;rw[AO.o];omega),qah (by rw[Jq.o];simp),qah (by unfold Sv.val;rw[AO.o];omega)]:VF=(J.put y1 (n+1),true,true))
      have hz:w.heap.size<=w4.heap.size:=aE G3.o.size ic.o.size;have hE:L.ext L5 w:=by refine⟨yn.1.trans G2.o.1,yn.2.1.trans G2.o.2.1,fun k hk e=>G2.o.2.2 k hk ?_⟩;have :=yn.2.2 k (aS hk (aE hz aM.size)) (e.trans G2.o.2.1.symm);exact this.trans G2.o.2.1
      have hF:Fr (L.own w) w w5:=aO.aQ G2.o G3.o (((ic.o.ak aM).mono (fun k hk=>by cases hk)).trans fT (fun k hk=>by
       rw[aO.cj]at hk;rcases bN k W1.heap.size with hl |hl
       ·exact .inl (aO.cj.2 ⟨hl,hk.2⟩)
       ·exact .inr hl))
      have FF:=ae (pT.o _ true true Bu.o w5 L5 h5 hE hF);go_wp2;go_ret2;exact FF.o
    ·have Bu:aj (VF=((J.dO n).1,false,true)):=(by rw[Qg.o];unfold Sv.gM;simp only[Q4.o];rw[qah (by unfold Sv.val;rw[AO.o];omega),qai hq]:VF=((J.dO n).1,false,true))
     have hz:w.heap.size<=w2.heap.size:=aE G3.o.size aT.o.size;have hE:L.ext L2 w:=by refine⟨jZ.1.trans G2.o.1,jZ.2.1.trans G2.o.2.1,fun k hk e=>G2.o.2.2 k hk ?_⟩;have :=jZ.2.2 k (aS hk hz) (e.trans G2.o.2.1.symm);exact this.trans G2.o.2.1
     have hF:Fr (L.own w) w w3:=aO.aQ G2.o G3.o ((aT.o.mono (fun k hk=>by cases hk)).trans cE (fun k hk=>by
      rw[aO.cj]at hk;rcases bN k W1.heap.size with hl |hl
      ·exact .inl (aO.cj.2 ⟨hl,hk.2⟩)
      ·exact .inr hl))
     have FF:=ae (pT.o _ false true Bu.o w3 L2 h2 hE hF);clear hq h2 jZ cE;go_wp2;go_ret2;exact FF.o
theorem sf(w:World)(ty:TypeId)(g c:Nat)(zs:List Int)(dD:Ints w (some ⟨g,0,none⟩) c zs)(j:Nat)(ad:Addr)(c':Nat)(J:List Int)(hr:∀k:Nat,k<J.length->w.cell? (ad.add k)=some (.int .i64 J[k]!))(hj:j+J.length<=zs.length):
  ∃w',(Builtin.append_ #[22,22] ty #[.slice (some ⟨g,0,none⟩) j c, .slice (some ad) J.length c']).run Tryz.prog w= .ok (.slice (some ⟨g,0,none⟩) (j+J.length) c) w'/\
   Ints w' (some ⟨g,0,none⟩) c (zs.take j++J++zs.drop (j+J.length))/\Fr [g] w w':=by
 obtain⟨i0,hi,zq,pj,AD⟩:=info_parts nh;rcases dD.2 with⟨h1,_⟩ |⟨g',cap,cur,hv,hb,hg,hn,hm,hs,ht⟩
 ·simp at h1
 ·simp only[Value.slice.injEq,Option.some.injEq,Addr.mk.injEq,true_and,and_true]at hv;obtain⟨rfl,rfl⟩:=hv;have nM:cur.size=c:=by simpa using hs
  have um:zs.length<=c:=by simpa using hn
  have oz:=run_append_room (P:=Tryz.prog) w 22 ty 3 i0 Tryz.underlying22 hi g j c cur hg ad J.length c' (J.map (Value.int .i64)) (by rw[pj];simp) (fun k u hu=>by simp only[aZ,Option.map_eq_some_iff]at hu;obtain⟨y,hy,rfl⟩:=hu;have hk:=(mX.1 hy).1;have :=hr k hk;rw[aa,hy]at this;exact this) (by simp[Value.oneCell']) (by omega) (by rw[pj];simp;omega);have Cq:(cur.toList.take j++J.map (Value.int .i64)++cur.toList.drop (j+J.length)).toArray.size=c:=by simp only[List.size_toArray,an,bz,List.length_drop,aG,Array.length_toList];omega
  rw[pj]at oz;simp only[j9,aG]at oz;refine⟨_,oz,⟨by simp, .inr ⟨g,c,_,?_,hb,setRow_heap w g cur _ 3 _ hg,?_,hm,?_,?_⟩⟩,⟨rfl,rfl,rfl,by simp,fun k _ hk=>setRow_other w g k _ (fun e=>hk (by simp[e]))⟩⟩
  ·rfl
  ·simp only[an,bz,List.length_drop];omega
  ·rw[j9];exact Cq
  ·simp only[j9]at ht⊢;have hlen:(zs.take j++J++zs.drop (j+J.length)).length=zs.length:=by simp only[an,bz,List.length_drop];omega
   rw[hlen,bE,bE,List.map_take,List.map_drop,<-ht];have e1:(cur.toList.take zs.length).take j=cur.toList.take j:=by rw[List.take_take,li (by omega)]
   rw[e1];have e2:(cur.toList.take zs.length).drop (j+J.length)=(cur.toList.drop (j+J.length)).take (zs.length-(j+J.length)):=by rw[List.drop_take]
   rw[e2];have Te:(cur.toList.take j).length=j:=by rw[bz,Array.length_toList];omega
   have hL:(cur.toList.take j++J.map (Value.int .i64)).length=j+J.length:=by rw[an,Te,aG]
   have hT:(cur.toList.take j++J.map (Value.int .i64)).take zs.length=cur.toList.take j++J.map (Value.int .i64):=dv (by rw[hL];exact hj);rw[List.take_append,hL,hT]
theorem mZ(w:World){ops:Array Oper}{rest:List Oper}{o:Oper}{a:Act}{Q:Exit->Act->World->Prop}(rA:o.guard=none)(s x:Operand)
  (ho:o.op= .call { callee:= .builtin .append,args:=#[s,x],argTypes:=#[22,22] }) (g c j:Nat) (zs:List Int) (hs:a.eval s= .slice (some ⟨g,0,none⟩) j c) (dD:Ints w (some ⟨g,0,none⟩) c zs)
  (J:Addr) (c':Nat) (y:Int) (hx:a.eval x= .slice (some J) 1 c') (hy:w.cell? J=some (.int .i64 y)) (hj:j<zs.length)
  (h:∀w',Ints w' (some ⟨g,0,none⟩) c (zs.take j++[y]++zs.drop (j+1))->Fr [g] w w'->wpList Tryz.prog ops Q rest (a.put o.dst (.slice (some ⟨g,0,none⟩) (j+1) c)) w'):
  wpList Tryz.prog ops Q (o::rest) a w:=by
 refine wpList_plain rA fun K hK=> ?_;obtain⟨w',hr,h2,h3⟩:=sf w o.type g c zs dD j J c' [y] (fun k hk=>by simp at hk;subst hk;rw[show J.add 0=J from qai rfl];exact hy) (by simp;omega);unfold Oper.wp execOp;simp only[aV]at hr h2;simp only[ho,resolve,invoke,builtin,Sem.run_bind,Sem.run_pure,Result.andThen_ok,List.map_toArray,dJ,fQ,hs,hx,hr];exact hK _ _ (h w' h2 h3)
theorem qi{w:World}{ops:Array Oper}{o:Oper}{a:Act}{K:Act->World->Prop}{Q:Exit->Act->World->Prop}{E:Prop}(rA:o.guard=none)(s x:Operand)
  (ho:o.op= .call { callee:= .builtin .append,args:=#[s,x],argTypes:=#[22,22] }) (g c j:Nat) (zs:List Int) (hs:a.eval s= .slice (some ⟨g,0,none⟩) j c) (dD:Ints w (some ⟨g,0,none⟩) c zs)
  (ad:Addr) (m c':Nat) (J:List Int) (hm:J.length=m) (hx:a.eval x= .slice (some ad) m c') (hr:∀k:Nat,k<J.length->w.cell? (ad.add k)=some (.int .i64 J[k]!)) (hj:j+J.length<=zs.length)
  (h:∀w',Ints w' (some ⟨g,0,none⟩) c (zs.take j++J++zs.drop (j+J.length))->Fr [g] w w'->K (a.put o.dst (.slice (some ⟨g,0,none⟩) (j+m) c)) w'):
  if Region.wanted o (yielded ops a.tmps)=true then Oper.wp Tryz.prog o a w K Q else E:=by
 have hw:Region.wanted o (yielded ops a.tmps)=true:=by simp[Region.wanted,rA]
 rw[qai hw];subst hm;obtain⟨w',oz,h2,h3⟩:=sf w o.type g c zs dD j ad c' J hr hj;unfold Oper.wp execOp;simp only[ho,resolve,invoke,builtin,Sem.run_bind,Sem.run_pure,Result.andThen_ok,List.map_toArray,dJ,fQ,hs,hx,oz];exact h w' h2 h3
theorem od{w:World}{ops:Array Oper}{o:Oper}{a:Act}{K:Act->World->Prop}{Q:Exit->Act->World->Prop}{E:Prop}(rA:o.guard=none)(s x:Operand)
  (ho:o.op= .call { callee:= .builtin .append,args:=#[s,x],argTypes:=#[22,22] }) (A:Option Addr) (c:Nat) (xs:List Int) (n:Nat) (hs:a.eval s= .slice A n c) (hn:n=xs.length) (dD:Ints w A c xs)
  (B:Option Addr) (m c':Nat) (J:List Int) (hm:J.length=m) (hx:a.eval x= .slice B m c') (hr:Ints w B c' J) (hlen:xs.length+J.length<=17592186044416)
  (h:∀A' cap w',Ints w' A' cap (xs++J)->Fr (ao A) w w'->(∀k,k∈ao A'->k∈ao A\/k=w.heap.size)->w.heap.size<=w'.heap.size->K (a.put o.dst (.slice A' (n+m) cap)) w'):
  if Region.wanted o (yielded ops a.tmps)=true then Oper.wp Tryz.prog o a w K Q else E:=by
 have hw:Region.wanted o (yielded ops a.tmps)=true:=by simp[Region.wanted,rA]
 rw[qai hw];subst hn hm;rcases hr.form with⟨rfl,rfl,rfl⟩ |⟨g,rfl,hg,_,_⟩
 ·obtain⟨i0,hi,zq,pj,AD⟩:=info_parts nh;have hc:xs.length<=c:=by
   rcases dD.form with⟨_,_,rfl⟩ |⟨_,_,_,h1,_⟩
   ·simp
   ·exact h1
  have oz:(Builtin.append_ #[22,22] o.type #[.slice A xs.length c, .slice none 0 0]).run Tryz.prog w= .ok (.slice A xs.length c) w:=by cases A<;>simp[Builtin.append_,run_underlying Tryz.underlying22,sizeOf,typeInfo,hi,Builtin.lenOf,hc,Builtin.firstCells,loadCells,storeCells]
  unfold Oper.wp execOp;simp only[List.length_nil]at hx;simp only[ho,resolve,invoke,builtin,Sem.run_bind,Sem.run_pure,Result.andThen_ok,List.map_toArray,dJ,fQ,hs,hx,oz];have :=h A c w (by rw[cq];exact dD) (Fr.refl _ _) (fun k hk=> .inl hk) (aq _);rw[List.length_nil,Nat.add_zero]at this;exact this
 ·have sr:=fun j (hj:j<J.length)=>hr.cell hj;obtain⟨A',cap,w',oz,h2,h3,h4,h5,h6,h7⟩:=ik w 22 o.type 3 (.int .i64 0) 1 8 Tryz.underlying22 nh rfl (by decide) A c xs.length (xs.map (Value.int .i64)) dD ⟨g,0,none⟩ J.length c' (J.map (Value.int .i64)) (by simp) (fun j u hu=>by simp only[aZ,Option.map_eq_some_iff]at hu;obtain⟨y,hy,rfl⟩:=hu;have hj:=(mX.1 hy).1;have :=sr j hj;rw[aa,hy]at this;rw[dQ,dd];exact this) (by simp[Value.oneCell']) (by unfold maxLen;omega) (by omega);unfold Oper.wp execOp;simp only[ho,resolve,invoke,builtin,Sem.run_bind,Sem.run_pure,Result.andThen_ok,List.map_toArray,dJ,fQ,hs,hx,oz];refine h A' cap w' ?_ h3 h4 h5;unfold Ints;rw[an,bE];exact h2
def aO.has(L:aO)(k:Nat):Prop:=k=L.a\/k∈L.tL.fp\/k∈L.hL.fp\/k∈ao L.cA\/k∈ao L.wA\/k∈ao L.pA\/k∈ao L.mA\/k∈ao L.oA\/(∃n:Nat,n<L.cs.length/\k∈ao (L.cs[n]!).A)\/(∃c:Nat,c<L.ws.length/\k∈ao (L.ws[c]!).A)
theorem bh.kR{w:World}{L:aO}{S:Sv}(h:bh w L S){k:Nat}(hk:L.has k):(L.dh k).1=L.id:=by
 rcases hk with rfl |hk |hk |hk |hk |hk |hk |hk |⟨n,J,hk⟩ |⟨c,hc,hk⟩
 ·rw[h.t0]
 ·rw[h.t1 k hk]
 ·rw[h.t2 k hk]
 ·rw[h.t3 k hk]
 ·rw[h.t4 k hk]
 ·rw[h.t5 k hk]
 ·rw[h.t6 k hk]
 ·rw[h.t7 k hk]
 ·rw[h.t8 n J k hk]
 ·rw[h.t9 c hc k hk]
theorem bh.MS{w:World}{L:aO}{S:Sv}(h:bh w L S)(ab:Nat->Nat×Nat×Nat)(J:∀k,L.has k->ab k=L.dh k):bh w { L with dh:=ab } S:=by
 refine⟨h.obj,h.tr,h.hp,h.jf,h.CJ,h.CI,h.wD,h.rws,h.wv,h.yd,h.vm,h.qM,h.sV,?_,fun k hk=> ?_,fun k hk=> ?_,fun k hk=> ?_,fun k hk=> ?_,fun k hk=> ?_,fun k hk=> ?_,fun k hk=> ?_,fun n hn k hk=> ?_,fun n hn k hk=> ?_⟩
 ·exact(J _ (.inl rfl)).trans h.t0
 ·exact(J _ (.inr (.inl hk))).trans (h.t1 k hk)
 ·exact(J _ (.inr (.inr (.inl hk)))).trans (h.t2 k hk)
 ·exact(J _ (.inr (.inr (.inr (.inl hk))))).trans (h.t3 k hk)
 ·exact(J _ (.inr (.inr (.inr (.inr (.inl hk)))))).trans (h.t4 k hk)
 ·exact(J _ (.inr (.inr (.inr (.inr (.inr (.inl hk))))))).trans (h.t5 k hk)
 ·exact(J _ (.inr (.inr (.inr (.inr (.inr (.inr (.inl hk)))))))).trans (h.t6 k hk)
 ·exact(J _ (.inr (.inr (.inr (.inr (.inr (.inr (.inr (.inl hk))))))))).trans (h.t7 k hk)
 ·exact(J _ (.inr (.inr (.inr (.inr (.inr (.inr (.inr (.inr (.inl ⟨n,hn,hk⟩)))))))))).trans (h.t8 n hn k hk)
 ·exact(J _ (.inr (.inr (.inr (.inr (.inr (.inr (.inr (.inr (.inr ⟨n,hn,hk⟩)))))))))).trans (h.t9 n hn k hk)
theorem bh.take{w:World}{L:aO}{S:Sv}(h:bh w L S){c:Nat}(hc:c<L.ws.length):
  ∃gw,L.wA=some ⟨gw,0,none⟩/\gw<w.heap.size/\w.frozen? ⟨gw,c,none⟩=false/\∃L',bh (w.setCell ⟨gw,c,none⟩ (.slice none 0 0)) L' (S.cJ c [])/\L.ext L' w/\Fr (L.own w) w (w.setCell ⟨gw,c,none⟩ (.slice none 0 0))/\
   Ints (w.setCell ⟨gw,c,none⟩ (.slice none 0 0)) (L.ws[c]!).A (L.ws[c]!).c (cd (L.ws[c]!).l)/\∀k,k∈ao (L.ws[c]!).A->(L'.dh k).1≠L'.id/\k∈L.own w:=by
 have iP:=h.sV c hc;obtain⟨gw,h1,h2,h3,L1,h4,h5,h6,h7⟩:=h.cJ hc (A':=none) (c':=0) (l':=[]) (F:=[]) (w1:=w) (Ints.nil w) (Fr.refl _ _) (fun k hk=>by cases hk) (fun k hk=>by simp[ao]at hk);refine⟨gw,h1,h2,h3,?_⟩;simp only[List.length_nil]at h4 h6;have mH:=h.t9 c hc;have tk:∀k,k∈ao (L.ws[c]!).A->¬L1.has k:=fun k hk hh=>by
  have J:=mH k hk;subst h7;rcases hh with rfl |hh |hh |hh |hh |hh |hh |hh |⟨n,hn,hh⟩ |⟨c',ab,hh⟩
  ·rw[h.t0]at J;simp at J
  ·rw[h.t1 k hh]at J;simp at J
  ·rw[h.t2 k hh]at J;simp at J
  ·rw[h.t3 k hh]at J;simp at J
  ·rw[h.t4 k hh]at J;simp at J
  ·rw[h.t5 k hh]at J;simp at J
  ·rw[h.t6 k hh]at J;simp at J
  ·rw[h.t7 k hh]at J;simp at J
  ·rw[h.t8 n hn k hh]at J;simp at J
  ·simp only[aw]at ab;simp only at hh;rw[eQ]at hh;by_cases e:c=c'
   ·rw[qai ⟨e,hc⟩]at hh;simp[ao]at hh
   ·rw[qah (fun x=>e x.1)]at hh;rw[h.t9 c' ab k hh]at J;simp at J;exact e J.symm
 have hid:L1.id=L.id:=h5.2.1;refine⟨{ L1 with dh:=fun k=>if k∈ao (L.ws[c]!).A then(L1.id+1,0,0)else L1.dh k },h4.MS _ (fun k hk=>qah (fun hm=>tk k hm hk)),⟨h5.1,hid,fun k hk e=> ?_⟩,h6,?_,fun k hk=>⟨?_,?_⟩⟩
 ·simp only at e;split at e
  ·rw[hid]at e;simp at e
  ·exact h5.2.2 k hk e
 ·refine iP.ie (p:=⟨gw,c,none⟩) (fun hm=> ?_) _;have J:=mH gw hm;rw[h.t4 gw (by rw[h1];simp[ao])]at J;simp at J
 ·simp only;rw[qai hk];simp
 ·rw[aO.cj];exact⟨iP.lt k hk,by rw[mH k hk]⟩
theorem bh.XK{w w1:World}{L:aO}{S:Sv}(h:bh w L S){c:Nat}(hc:c<L.ws.length){A0 A':Option Addr}{c':Nat}{l':List Nat}(ab:∀k,k∈ao A0->(L.dh k).1≠L.id)(hi:Ints w1 A' c' (cd l'))
  (hf:Fr (ao A0) w w1) (hA:∀k,k∈ao A'->k∈ao A0\/w.heap.size<=k):
  ∃J,L.wA=some ⟨J,0,none⟩/\w1.frozen? ⟨J,c,none⟩=false/\∃L',bh (w1.setCell ⟨J,c,none⟩ (.slice A' l'.length c')) L' (S.cJ c l')/\L'.a=L.a/\L'.id=L.id/\(∀k,k<w.heap.size->(L'.dh k).1=L.id->(L.dh k).1=L.id\/k∈ao A0)/\
   Fr (ao A0++L.own w) w (w1.setCell ⟨J,c,none⟩ (.slice A' l'.length c')):=by
 have tk:∀k,L.has k->k∉ao A0:=fun k hk hm=>ab k hm (h.kR hk);have h2:=h.MS (fun k=>if k∈ao A0 then(L.id,9,c)else L.dh k) (fun k hk=>qah (tk k hk));obtain⟨J,g1,g2,g3,L',g4,g5,g6,g7⟩:=h2.cJ (c:=c) hc (l':=l') hi hf (fun k hk _=>qai hk) (fun k hk=>by
  rcases hA k hk with h3 |h3
  ·rcases bN k w.heap.size with hl |hl
   ·exact .inl ⟨hl,qai h3⟩
   ·exact .inr hl
  ·exact .inr h3)
 refine⟨J,g1,g3,L',g4,g5.1,g5.2.1,fun k hk e=> ?_,g6.mono (fun k hk=> ?_)⟩
 ·have :=g5.2.2 k hk e;simp only at this;by_cases hm:k∈ao A0
  ·exact .inr hm
  ·rw[qah hm]at this;exact .inl this
 ·rw[aO.cj]at hk
  left
  by_cases hm:k∈ao A0
  ·exact av _ hm
  ·have e:=hk.2;simp only[qah hm]at e;exact bP _ (aO.cj.2 ⟨hk.1,e⟩)
namespace Sv
theorem Ok.p8(off:Int):∀(ws keep:List Nat)(S:Sv),S.Ok (keep.length+ws.length)->(∀n∈ws,n<S.list.length)->(∀n∈keep,n<S.list.length)->aW off<S.watch.length->
  (cg off ws keep S).1.Ok 0/\(cg off ws keep S).1.vars=S.vars/\(cg off ws keep S).1.head=S.head/\(cg off ws keep S).1.list.length=S.list.length/\∀n,(cg off ws keep S).2=some n->n<S.list.length
 |[],keep,S,ok,_,hk,hc=>by
  simp only[cg];refine⟨ok.cJ hc (fun n hn=> ?_) (by simp;omega),rfl,rfl,rfl,fun n h=>by cases h⟩;rcases ah.1 hn with h |h
  ·exact hk n h
  ·exact ok.wb _ n h
 |n::r,keep,S,ok,hw,hk,hc=>by
  simp only[cg];have hn:=hw n (by simp);obtain⟨v1,v2,v3,v4,v5⟩:=(ok.less (m':=keep.length+r.length+1) (by simp;omega)).visit hn off;generalize S.dC n off=q at *;have Er:∀j∈(if q.2.1=true then keep++[n]else keep),j<q.1.list.length:=fun j J=>by
   rw[v3];split at J
   ·rcases ah.1 J with h |h
    ·exact hk j h
    ·simp at h;omega
   ·exact hk j J
  have xB:q.1.Ok ((if q.2.1=true then keep++[n]else keep).length+r.length):=by
   split
   ·rename_i h;rw[qai h]at v1;exact v1.less (by simp;omega)
   ·rename_i h;rw[qah h]at v1;exact v1
  split
  ·have ih:=Ok.p8 off r _ q.1 xB (fun j J=>by rw[v3];exact hw j (by simp[J])) Er (by rw[v5];exact hc);exact⟨ih.1,by rw[ih.2.1,v2],by rw[ih.2.2.1,v4],by rw[ih.2.2.2.1,v3],fun j J=>by have :=ih.2.2.2.2 j J;omega⟩
  ·refine⟨xB.cJ (by rw[v5];exact hc) (fun j J=> ?_) (by simp <;>omega),v2,v4,v3,fun j J=>by simp at J;omega⟩;rcases ah.1 J with h |h
   ·exact Er j h
   ·rw[v3];exact hw j (by simp[h])
theorem yX(S:Sv)(x r:Int):S.T.lits.length<=(S.put x r).T.lits.length:=by
 unfold put;simp only;split
 ·simp[Tr.qt]
 ·exact aq _
theorem JA(S:Sv)(n:Nat)(off:Int):S.T.lits.length<=(S.dC n off).1.T.lits.length:=by
 unfold dC;split
 ·exact aq _
 ·have e:=(qd S n off).1;rw[<-e];generalize S.cY n off=J;unfold gM;simp only;split
  ·exact aq _
  ·split
   ·rw[(sL J n).1];exact aq _
   ·split
    ·exact aq _
    ·exact yX _ _ _
theorem m7(off:Int):∀(ws keep:List Nat)(S:Sv),S.T.lits.length<=(cg off ws keep S).1.T.lits.length
 |[],keep,S=>aq _
 |n::r,keep,S=>by
  simp only[cg];have h1:=JA S n off;split
  ·exact aE h1 (m7 off r _ _)
  ·exact h1
end Sv
theorem aR(w:World)(o:Obj):Fr [] w (w.alloc o):=(Fr.refl [] w).alloc o
theorem Ints.fY{w w':World}{A:Option Addr}{c:Nat}{xs:List Int}(h:Ints w A c xs)(J:Fr [] w w'):Ints w' A c xs:=h.fr J (fun k hk hm=>by cases hm)
def zK:Option Nat->Int
 |some n=>n
 |none=> -1
theorem bh.ya{w:World}{L:aO}{S:Sv}(h:bh w L S)(x:Nat):bh (w.setCell ⟨L.a,8,none⟩ (.int .i64 x)) L { S with head:=x }/\Fr (L.own w) w (w.setCell ⟨L.a,8,none⟩ (.int .i64 x)):=by have hf:Fr [L.a] w (w.setCell ⟨L.a,8,none⟩ (.int .i64 x)):=(Fr.refl _ w).setCell (.inl (by simp)) _;obtain⟨h1,_,J⟩:=h.top (L':=L) (S':={ S with head:=x }) hf (by have :=h.obj.dL 8 (.int .i64 x);simpa[qm]using this) ⟨rfl,rfl,rfl,rfl,rfl,rfl,rfl,rfl,rfl,rfl,rfl,rfl,rfl,rfl,rfl,rfl,rfl⟩ ⟨rfl,rfl,rfl,rfl,rfl,rfl,rfl⟩;exact⟨h1,J⟩
theorem MR{keep l0:List Nat}{i:Nat}(h:keep.length<=i)(hi:i<l0.length):(keep++l0.drop keep.length)[i]! =l0[i]! :=by simp only[aa];rw[bX h,List.getElem?_drop,Nat.add_sub_cancel' h]
theorem rg{keep l0:List Nat}(h:keep.length<=l0.length):(keep++l0.drop keep.length).length=l0.length:=by simp;omega
theorem MQ{keep l0:List Nat}(n:Nat)(h:keep.length<l0.length):(cd (keep++l0.drop keep.length)).take keep.length++[(n:Int)]++(cd (keep++l0.drop keep.length)).drop (keep.length+1)=cd ((keep++[n])++l0.drop (keep++[n]).length):=by
 simp only[cd,bE,List.map_drop,an,aV,dJ,fQ];congr 1
 ·congr 1;rw[oO (by simp)];exact dv (by simp)
 ·rw[List.drop_append,List.drop_of_length_le (by simp),List.nil_append,List.drop_drop,aG];congr 1;omega
theorem yb{keep l0:List Nat}:(cd (keep++l0.drop keep.length)).take keep.length=cd keep:=by simp only[cd,bE];rw[oO (by simp)];exact dv (by simp)
theorem Rg(S:Sv)(n:Nat)(off:Int):(S.dC n off).2.1=false->(S.dC n off).2.2=true:=by
 unfold Sv.dC Sv.gM;split
 ·simp
 ·simp only;split
  ·simp
  ·split
   ·simp
   ·split<;>simp
theorem pq{S:Sv}{f:Nat}(h:¬S.head<S.T.lits.length):Sv.dE f S=(S,none):=by
 cases f with
 |zero=>rfl
 |succ f=>simp only[Sv.dE];rw[qah h]
theorem EG(w:World)(L:aO)(S:Sv)(h:bh w L S)(ok:S.Ok 0):
  Calls Tryz.prog 106 #[.pointer (some ⟨L.a,0,none⟩)] w (pB (.int .i64 (zK S.follow.2)) S.follow.1 L w):=by
 obtain⟨eH,eB⟩:∃eH,S.follow=eH:=⟨_,rfl⟩
 have gd:aj (Sv.dE (S.vars+1) S=eH):=eB;rw[eB];have pT:aj (∀(S':Sv)(r:Option Nat),eH=(S',r)->∀W L',bh W L' S'->L.ext L' w->Fr (L.own w) w W->pB (.int .i64 (zK eH.2)) eH.1 L w (.returned (.int .i64 (zK r))) W):=fun S' r e W L' g1 g2 g3=>by subst e;exact⟨rfl,L',g1,g2,g3⟩
 have HH:=ae h;have lh:=ae ok;have eg:aj (w.heap.size=w.heap.size):=rfl;clear eB h ok;go_enter Tryz.func106,Tryz.ntmps106;go_wp2_with fail;go_loopg [2] (S.vars+1) (fun g x2 wr=>∃(J:Sv)(L1:aO),aj (Sv.dE g J=eH)/\J.vars+1<=g+J.head/\aj (J.Ok 0)/\aj (bh wr L1 J)/\aj (L.ext L1 w)/\aj (Fr (L.own w) w wr));case atStart=>exact⟨S,L,gd.o,by omega,lh.o,HH.o,aO.cw _ _,Fr.refl _ _⟩
 case round=>
  obtain⟨J,L1,tz,cO,lZ,H1,fH,dZ⟩:=hrel;have bI:=ae cO;have lP:=lZ.o.vl;have K2:=lZ.o.hd;have oD:J.T.lits.length<=J.vars:=by obtain⟨R,hR⟩:=lZ.o.tr;have :=hR.io;rw[hR.lits,aG];exact this
  have nW:L1.a=L.a:=fH.o.1;obtain⟨c0,-,-,-,c4,-,-,-,c8,-⟩:=H1.o.cells;rw[nW]at c0 c4 c8;have vZ:=ae c0;have Qx:=ae c4;have cb:=ae c8;have ec:=ae nW;have e0:=Ext.cell c0;have e8:=Ext.cell c8;have KL:=ae (fun u:Ext wr=>mc u.v L1.tL J.T (H1.o.tr.fr u.fr (by simp)));clear nW cO c4;by_cases bt:J.head<J.T.lits.length
  ·obtain⟨f,di⟩:∃f,gk=f+1:=⟨gk-1,by have :=bI.o;omega⟩
   have hd:decide ((J.head:Int)<(J.T.lits.length:Int))=true:=qak (by omega);go_wp2;refine ap ?_;repeat (go_big_quiet_step (exact bp (KL.o _)))
   refine fq ?_;intro w2 aT;clear e0 e8 c0 c8 KL hd;obtain⟨x,hx⟩:∃x,J.T.lits[J.head]! =x:=⟨_,rfl⟩
   have j4:J.T.atB (J.head:Int)=x:=by unfold Tr.atB;rw[qai (by omega),Int.toNat_natCast];exact hx
   have rN: -(J.vars:Int)<=x/\x<=J.vars/\x≠0:=by
    obtain⟨R,hR⟩:=lZ.o.tr;have hm:x∈J.T.lits:=by rw[<-hx];exact get_mem bt
    rw[hR.lits,aN]at hm;obtain⟨e,he,rfl⟩:=hm;have hb:=hR.bound e he;unfold tv at hb;split at hb
    ·omega
    ·split at hb<;>omega
   have HX:=ae hx;have KA:=ae (fun u:Ext w2=>ml u.v L1.tL J.T (H1.o.tr.fr (aT.o.ak u.fr) (by simp)) (J.head:Int));rw[j4]at KA;have c0:=aT.o.aF vZ.o;have c8:=aT.o.aF cb.o;have e0:=Ext.cell c0;have e8:=Ext.cell c8;have eo:IntKind.i64.wrap (-x)= -x:=IntWalk.i64_in _ (by omega);clear j4 hx;go_wp2;refine ap ?_;repeat (go_big_quiet_step (exact bp (KA.o _)))
   refine fq ?_;intro w3 qU;obtain⟨off,xI⟩:∃off,-x=off:=⟨_,rfl⟩
   have c5: -(J.vars:Int)<=off/\off<=J.vars:=by omega
   have dx:=ae xI;rw[xI];clear e0 e8 c0 c8 KA eo xI rN;obtain⟨cy,Pz⟩:∃cy,aW off=cy:=⟨_,rfl⟩
   have KC:=ae (fun W=>pu W off (by omega) (by omega));simp only[Pz]at KC;have oR:cy<L1.ws.length:=by rw[H1.o.uf,lZ.o.wl,<-Pz];exact iR c5.1 c5.2
   have VH:=ae Pz;have dG:=ae (aT.o.ak qU.o);clear aT qU Pz;obtain⟨gw,xJ,sw,fw⟩:=H1.o.whd oR;have QN:=H1.o.qab oR;have bg:=ae (fun W hW=>(H1.o.keep (w':=W) hW).take oR);obtain⟨⟨A0,c0,l0⟩,GP⟩:∃x,L1.ws[cy]! =x:=⟨_,rfl⟩
   rw[GP]at sw QN bg;simp only at sw QN bg;have ZX:=ae QN;have vV:=ae sw;have rL:=ae fw;have c4:=dG.o.aF Qx.o;rw[xJ]at c4;have s4:=dG.o.aF sw;have e4:=Ext.cell c4;have es:=Ext.cell s4;have I1:=ae oR;have bO:=ae xJ;clear GP QN sw fw xJ;go_wp2;refine ap ?_;repeat (go_big_quiet_step (exact bp (KC.o _)))
   refine fq ?_;intro w4 cG;clear c4 s4 e4 es;have ic:=ae (dG.o.ak cG.o);have b6:=Qx.o;rw[bO.o]at b6;have cr:=ae (ic.o.aF b6);clear dG cG b6;go_upto_region 5 with fail;refine qan ?_;refine bw (fun w':World=>Fr [] w4 w') 7 (by kernel_rfl) ((Fr.refl [] w4).drew) (fun dy=> ?_);refine oI 5 [(0,[]),(1,[]),(2,[]),(3,[3,7]),(4,[])] dy (fun w bT=>bT.aF cr.o) ?_;intro dy;refine R2 5 dy fun K hK aM=> ?_
   (go_simp;refine(KC.o _).mono ?_;rintro e w5 ⟨rfl,rfl⟩;dsimp only)
   refine hK.out _ _ (.inr ?_) (fun Vr=> ?_)
   ·exact aM
   clear hK K;try simp only[Act.put,q5,q6,q7]
   refine TB 1 [(6,[])] Vr ?_;intro Vr;refine R2 7 Vr fun K hK aM=> ?_
   (have sb:=(ic.o.ak aM).aF vV.o;have fb:World.frozen? _ _=_:=(World.frozen?_of_block ((ic.o.ak aM).block gw (bR vV.o) (by simp))).trans rL.o;go_simp)
   refine hK.out _ _ (.inl rfl) (fun Lo=> ?_);clear hK K;try simp only[Act.put,q5,q6,q7]
   refine fO ?_;have ht:=bg.o w4 ic.o;obtain⟨Lr,fu,_,_,L5,cB,yn,ch,Tg,b7⟩:=ht;obtain rfl :gw=Lr:=by rw[bO.o]at fu;simpa using fu
   obtain⟨W5,XF⟩:∃W,(w4.setCell ⟨gw,cy,none⟩ (.slice none 0 0)).drew=W:=⟨_,rfl⟩
   have h5:bh W5 L5 (J.cJ cy []):=XF▸cB.keep (Fr.refl [] _).drew;have fT:Fr (L1.own w4) w4 W5:=XF▸ch.drew;have ym:Ints W5 A0 c0 (cd l0):=XF▸Tg.drew;rw[XF];clear cB ch Tg;have pj:wr.heap.size<=w4.heap.size:=ic.o.size;have cE:L.ext L5 w:=aO.a6 fH.o (⟨yn.1,yn.2.1,fun k hk e=>yn.2.2 k (aS hk pj) e⟩:L1.ext L5 wr) dZ.o.size;have cI:Fr (L.own w) w W5:=aO.aQ fH.o dZ.o ((ic.o.mono (fun k hk=>by cases hk)).trans fT (fun k hk=>by
    rw[aO.cj]at hk;rcases bN k wr.heap.size with hl |hl
    ·exact .inl (aO.cj.2 ⟨hl,hk.2⟩)
    ·exact .inr hl))
   have Zu:∀k,k∈ao A0->(L5.dh k).1≠L5.id:=fun k hk=>(b7 k hk).1;have cS:∀k,k∈ao A0->k∈L.own w\/w.heap.size<=k:=fun k hk=>by
    have e1:=(b7 k hk).2;rw[aO.cj]at e1;rcases bN k w.heap.size with hl |hl
    ·exact .inl (aO.cj.2 ⟨hl,fH.o.2.2 k hl (e1.2.trans fH.o.2.1)⟩)
    ·exact .inr hl
   have CX:=ae cS;have xo:aj (Sv.dE f { (Sv.cg off l0 [] (J.cJ cy [])).1 with head:=J.head+1 }=eH/\(Sv.cg off l0 [] (J.cJ cy [])).2=none\/∃n,(Sv.cg off l0 [] (J.cJ cy [])).2=some n/\eH=((Sv.cg off l0 [] (J.cJ cy [])).1,some n)):=by
    have h1:=tz.o;rw[di]at h1;simp only[Sv.dE]at h1;rw[qai bt,HX.o,dx.o,VH.o,ZX.o]at h1;have eb:(Sv.cg off l0 [] (J.cJ cy [])).1.head=J.head:=by have o2:(J.cJ cy []).Ok (0+l0.length):=lZ.o.cJ (by rw[<-H1.o.uf];exact I1.o) (fun n hn=>by cases hn) (by rw[ZX.o];simp);exact(o2.p8 off l0 [] _ (fun n hn=>lZ.o.wb cy n (by have :=ZX.o;unfold Sv.gG at this;rw[this];exact hn)) (fun n hn=>by cases hn) (by show aW off<(J.watch.set _ _).length;rw[aw,<-H1.o.uf,VH.o];exact I1.o)).2.2.1
    cases hv:(Sv.cg off l0 [] (J.cJ cy [])).2 with
    |none=>
     rw[hv]at h1;simp only[eb]at h1;exact .inl ⟨h1,rfl⟩
    |some n=>
     rw[hv]at h1;exact .inr ⟨n,rfl,h1.symm⟩
   have o2:(J.cJ cy []).Ok l0.length:=lZ.o.cJ (by rw[<-H1.o.uf];exact I1.o) (fun n hn=>by cases hn) (by rw[ZX.o];simp);have b0:∀n∈l0,n<J.list.length:=fun n hn=>lZ.o.wb cy n (by have :=ZX.o;unfold Sv.gG at this;rw[this];exact hn);have ct:=ae b0;have bB:=ae (H1.o.uf.trans lZ.o.wl);have cc:=(o2.less (m':=([]:List Nat).length+l0.length) (by simp)).p8 off l0 [] _ b0 (fun n hn=>by cases hn) (by show aW off<(J.watch.set _ _).length;rw[aw,<-H1.o.uf,VH.o];exact I1.o);have LW:=ae cc;obtain⟨VR,b5⟩:∃VR,Sv.cg off l0 [] (J.cJ cy [])=VR:=⟨_,rfl⟩
   rw[b5]at xo LW;have Q6:=ae b5;have nV:=lZ.o.ll;have H5:=ae h5;have pW:=ae cE;have js:=ae cI;have Z9:=ae ym;have Qm:=ae Zu;have Aw:=ae o2;have cp:aj ((J.cJ cy []).watch.length=2*J.vars+2):=(by show(J.watch.set _ _).length=_;rw[aw];exact lZ.o.wl:(J.cJ cy []).watch.length=2*J.vars+2)
   have ej:l0.length<=4398046511104:=by have :=lZ.o.room cy;have h2:=ZX.o;unfold Sv.gG at h2;rw[h2]at this;exact this
   have er:l0.length<=c0:=by
    have h2:=ym.form;have e:=bv l0;rcases h2 with⟨_,_,h3⟩ |⟨_,_,_,h3,_⟩
    ·rw[h3]at e;simp at e;omega
    ·omega
   clear h5 yn fT ym b7 cE cI Zu cS o2 b0 cc b5 XF pj bg aM fu vV rL bO cr ic H1 vZ Qx cb;try clear Lo
   try clear Vq
   try clear Vr
   have dm:=Z9.o.form;rcases dm with⟨rfl,rfl,uZ⟩ |⟨g0,rfl,ei,-,-⟩
   ·have c7:l0=[]:=by have :=bv l0;rw[uZ]at this;exact aX this.symm
    subst c7;clear uZ;go_wp2_with fail;go_loopg [5,56] ([]:List Nat).length (fun g2 x5 ca wi=>∃(i:Nat)(keep:List Nat)(S2:Sv)(L2:aO),i+g2=([]:List Nat).length/\keep.length<=i/\x5= .slice none keep.length 0/\ca= .int .i64 i/\aj (Sv.cg off (([]:List Nat).drop i) keep S2=VR)/\aj (S2.Ok (keep.length+(([]:List Nat).length-i)))/\aj (∀n∈keep,n<J.list.length)/\aj (S2.list.length=J.list.length/\S2.vars=J.vars/\S2.watch.length=2*J.vars+2)/\aj (bh wi L2 S2)/\aj (L.ext L2 w)/\aj (Fr (L.own w) w wi)/\aj (Ints wi none 0 (cd (keep++([]:List Nat).drop keep.length)))/\aj (∀k,k∈ao none->(L2.dh k).1≠L2.id));case atStart=>exact⟨0,[],J.cJ cy [],L5,by omega,aq _,rfl,rfl,Q6.o,Aw.o.less (by simp),(fun n hn=>by cases hn),⟨rfl,rfl,cp.o⟩,H5.o,pW.o,js.o,Z9.o,Qm.o⟩
    case round=>
     obtain⟨i,keep,S2,L2,hi,Bj,rfl,rfl,bj,qR,CW,sB,H2,dR,df,mi,l8⟩:=hrel;have HI:=ae hi;have sS:i<=([]:List Nat).length:=(by omega)
     clear hi;by_cases qJ:i<([]:List Nat).length
     ·simp at qJ
     ·obtain rfl :i=([]:List Nat).length:=by omega
      clear HI;have qK:cy<L2.ws.length:=by rw[H2.o.uf,sB.o.2.2];have :=I1.o;rw[bB.o]at this;exact this
      obtain⟨gw,xJ,sw,fw⟩:=H2.o.whd qK;obtain⟨-,-,-,-,c4,-⟩:=H2.o.cells;rw[xJ,dR.o.1]at c4;have IY:aj (L.a∉ao none):=fun hm=>l8.o _ hm (H2.o.kR (.inl (by rw[dR.o.1])));have rW:aj (gw∉ao none):=fun hm=>l8.o _ hm (H2.o.kR (.inr (.inr (.inr (.inr (.inl (by rw[xJ];simp[ao])))))));have I4:=ae c4;have oJ:=ae sw;have Qu:=ae fw;have Qr:=ae xJ;have gF:=bj.o;rw[List.drop_length]at gF;simp only[Sv.cg]at gF;rw[VH.o]at gF;have xG:=H2.o.qab qK;have Jd:=H2.o.sV cy qK;have QR:=qR.o.room cy;have SU:∀k,k∈ao (L2.ws[cy]!).A->k∉ao none:=fun k hk hm=>l8.o k hm (H2.o.kR (.inr (.inr (.inr (.inr (.inr (.inr (.inr (.inr (.inr ⟨cy,qK,hk⟩))))))))));unfold Sv.gG at xG gF;rw[xG]at QR gF;obtain⟨⟨A9,c9,l9⟩,Kd⟩:∃x,L2.ws[cy]! =x:=⟨_,rfl⟩
      rw[Kd]at sw Jd QR gF SU;rw[Kd]at oJ;simp only at sw Jd QR gF oJ SU;have Fx:=ae Jd;have Vw:=ae gF;have Hb:Ints wr none 0 (cd keep):=by have :=mi.o.qg keep.length;rw[yb]at this;exact this
      have aK:=ae Hb;have Tp:cy<L2.ws.length:=qK;have Qv:=ae Tp;have Vz:aj (Sv.dE f { VR.1 with head:=J.head+1 }=eH):=by
       rcases xo.o with h1 |⟨n,h1,_⟩
       ·exact h1.1
       ·rw[<-Vw.o]at h1;simp at h1
      have dq:keep.length<=4398046511104:=(by omega)
      clear Kd xG Jd gF Hb sw fw xJ c4 qK;go_upto_region 17 with fail;refine qan ?_;refine bw (fun w':World=>Fr (ao none) wr w') 17 (by kernel_rfl) ((Fr.refl _ wr).drew) (fun dy=> ?_);refine oI 11 [(0,[]),(1,[]),(2,[]),(3,[3,17]),(4,[]),(6,[]),(7,[]),(8,[]),(9,[]),(10,[10,17]),(11,[])] dy (fun w bT=>And.intro (bT.bF IY.o I4.o) (bT.bF rW.o oJ.o)) ?_;intro dy;refine R2 5 dy fun K hK aM=> ?_
      (go_simp;refine(KC.o _).mono ?_;rintro e w5 ⟨rfl,rfl⟩;dsimp only)
      refine hK.out _ _ (.inr ?_) (fun jO=> ?_)
      ·first |exact aM.ak jg |exact aM
      clear hK K;try simp only[Act.put,q5,q6,q7]
      refine R2 12 jO fun K hK aM=> ?_
      (go_simp;refine(KC.o _).mono ?_;rintro e w5 ⟨rfl,rfl⟩;dsimp only)
      refine hK.out _ _ (.inr ?_) (fun oE=> ?_)
      ·first |exact aM.ak jg |exact aM
      clear hK K;try simp only[Act.put,q5,q6,q7]
      refine oI 2 [(13,[]),(14,[14,17])] oE (fun w bT=>And.intro (bT.bF IY.o I4.o) (bT.bF rW.o oJ.o)) ?_;intro oE;refine R2 15 oE fun K hK aM=> ?_
      (refine od rfl _ _ rfl none 0 (cd keep) _ rfl (bv keep).symm ?GX A9 _ c9 (cd l9) (bv l9) rfl ?Kp (by rw[bv,bv];omega) ?_;(case GX=>first |exact aK.o.drew |exact aK.o);(case Kp=>first |exact Fx.o.drew |exact Fx.o);intro A' cap w7 AJ jg ZD b9)
      refine hK.out _ _ (.inr ?_) (fun lR=> ?_)
      ·first |exact aM.ak jg |exact aM
      clear hK K;try simp only[Act.put,q5,q6,q7]
      refine TB 1 [(16,[])] lR ?_;intro lR;refine R2 17 lR fun K hK aM=> ?_
      (have sb:=aM.bF rW.o oJ.o;have fb:World.frozen? _ _=_:=(World.frozen?_of_block (aM.block gw (bR oJ.o) rW.o)).trans Qu.o;go_simp)
      refine hK.out _ _ (.inl rfl) (fun k6=> ?_);clear hK K;try simp only[Act.put,q5,q6,q7]
      refine fO ?_;have Nr:Ints w7 A' cap (cd (keep++l9)):=by have :=AJ;unfold cd at this⊢;rw[bE];exact this
      obtain⟨Lr,fu,_,L8,h8,tt,Ev,WE,kc⟩:=H2.o.XK (c:=cy) Qv.o (A0:=none) l8.o Nr aM (fun k hk=>(ZD k hk).imp id (fun e=>by rw[e];exact aq _));obtain rfl :gw=Lr:=by rw[Qr.o]at fu;simpa using fu
      simp only[an]at h8 kc;obtain⟨W8,Vo⟩:∃W,w7.setCell ⟨gw,cy,none⟩ (.slice A' (keep.length+l9.length) cap)=W:=⟨_,rfl⟩
      rw[Vo]at h8 kc⊢;have PG:L.ext L8 w:=by
       refine⟨tt.trans dR.o.1,Ev.trans dR.o.2.1,fun k hk e=> ?_⟩;rcases WE k (aS hk df.o.size) (e.trans dR.o.2.1.symm)with h1 |h1
       ·exact dR.o.2.2 k hk (h1.trans dR.o.2.1)
       ·rcases CX.o k h1 with h2 |h2
        ·exact(aO.cj.1 h2).2
        ·omega
      have TF:Fr (L.own w) w W8:=df.o.trans kc (fun k hk=>by
       rcases ah.1 hk with h1 |h1
       ·exact CX.o k h1
       ·rw[aO.cj]at h1;rcases bN k w.heap.size with hl |hl
        ·exact .inl (aO.cj.2 ⟨hl,dR.o.2.2 k hl (h1.2.trans dR.o.2.1)⟩)
        ·exact .inr hl)
      have zB:S2.cJ cy (keep++l9)=VR.1:=(by rw[<-Vw.o])
      rw[zB]at h8;have ba:=LW.o.2.2.1;have a1:VR.1.head=J.head:=ba;have yh:VR.1.vars=J.vars:=LW.o.2.1;have bS:J.T.lits.length<=VR.1.T.lits.length:=by have :=Sv.m7 off [] [] (J.cJ cy []);rw[Q6.o]at this;exact this
      have c8:=h8.cells.2.2.2.2.2.2.2.2.1;have f8:=h8.obj.frozen 8;rw[a1]at c8;rw[tt.trans dR.o.1]at c8 f8;obtain⟨h9,rT⟩:=h8.ya (J.head+1);rw[tt.trans dR.o.1]at h9 rT;have H9:=ae h9;have th:=ae (aO.aQ PG TF rT);have bG:=ae PG;have Q9:aj (({ VR.1 with head:=J.head+1 }:Sv).Ok 0):=(by have o:=LW.o.1;exact⟨o.vl,o.tr,o.hi,o.hl,o.ph,o.wl,o.ll,o.wb,o.wt,o.lr,o.ln,o.lb,by show J.head+1<=VR.1.T.lits.length;omega,o.rs⟩:({ VR.1 with head:=J.head+1 }:Sv).Ok 0)
      have b1:=ae yh;have dV:J.head<=262143:=(by omega)
      clear Vo h8 kc PG TF zB ba a1 yh bS h9 rT AJ jg ZD b9 Nr WE tt Ev aM;go_wp2;go_roundg f;case measure=>omega
      case rel=>exact⟨{ VR.1 with head:=J.head+1 },L8,Vz.o,(by show VR.1.vars+1<=f+(J.head+1);have :=bI.o;have :=b1.o;omega),Q9.o,H9.o,bG.o,th.o⟩
   ·go_wp2_with fail;go_loopg [5,56] l0.length (fun g2 x5 ca wi=>∃(i:Nat)(keep:List Nat)(S2:Sv)(L2:aO),i+g2=l0.length/\keep.length<=i/\x5= .slice (some ⟨g0,0,none⟩) keep.length c0/\ca= .int .i64 i/\aj (Sv.cg off (l0.drop i) keep S2=VR)/\aj (S2.Ok (keep.length+(l0.length-i)))/\aj (∀n∈keep,n<J.list.length)/\aj (S2.list.length=J.list.length/\S2.vars=J.vars/\S2.watch.length=2*J.vars+2)/\aj (bh wi L2 S2)/\aj (L.ext L2 w)/\aj (Fr (L.own w) w wi)/\aj (Ints wi (some ⟨g0,0,none⟩) c0 (cd (keep++l0.drop keep.length)))/\aj (∀k,k∈ao (some ⟨g0,0,none⟩)->(L2.dh k).1≠L2.id));case atStart=>exact⟨0,[],J.cJ cy [],L5,by omega,aq _,rfl,rfl,Q6.o,Aw.o.less (by simp),(fun n hn=>by cases hn),⟨rfl,rfl,cp.o⟩,H5.o,pW.o,js.o,Z9.o,Qm.o⟩
    case round=>
     obtain⟨i,keep,S2,L2,hi,Bj,rfl,rfl,bj,qR,CW,sB,H2,dR,df,mi,l8⟩:=hrel;have HI:=ae hi;have sS:i<=l0.length:=(by omega)
     clear hi;by_cases qJ:i<l0.length
     ·have cn:=(mi.o:Ints _ (some ⟨g0,0,none⟩) c0 _).cell (i:=i) (by rw[bv,rg (by omega)];exact qJ);rw[rG,MR Bj qJ]at cn;obtain⟨n,hn⟩:∃n,l0[i]! =n:=⟨_,rfl⟩
      rw[hn]at cn;have SX:n∈l0:=by rw[<-hn];simp only[aa,af qJ,aJ];exact gu qJ
      have rz:n<S2.list.length:=by rw[sB.o.1];exact ct.o n SX
      have Fo:n<2199023255552:=by have :=lZ.o.ll;have :=sB.o.1;omega
      have sT:l0.drop i=n::l0.drop (i+1):=by rw[List.drop_eq_getElem_cons qJ,<-hn];simp only[aa,af qJ,aJ]
      have SQ:=qR.o.less (m':=(keep.length+(l0.length-(i+1)))+1) (by omega);have ab:=FG _ L2 S2 H2.o _ SQ n rz off;have bo:=SQ.visit rz off;have Ex:=Rg S2 n off;have gF:=bj.o;rw[sT]at gF;simp only[Sv.cg]at gF;rw[dR.o.1]at ab;obtain⟨⟨q1,st,Wh⟩,hq⟩:∃q,S2.dC n off=q:=⟨_,rfl⟩
      rw[hq]at ab bo Ex gF;simp only at ab bo Ex gF;have ab:=ae ab;have ar:=ae bo;have dD:=ae Ex;have b4:=ae gF;have xp:=ae (ct.o n SX);clear hq bo Ex gF sT SX hn rz SQ;go_wp2_with fail;clear cn;refine ab.o.mono ?_;clear ab;rintro e w6 ⟨rfl,L3,h3,xL,dN⟩;have jt:=ae (aO.a6 dR.o (by exact xL) df.o.size);have U2:=ae (aO.aQ dR.o df.o dN);have fu:∀V:World,g0∉L2.own V:=fun V hm=>l8.o g0 (by simp[ao]) (aO.cj.1 hm).2;have aB:=ae (mi.o.fr dN (fun k hk=>by simp[ao]at hk;subst hk;exact fu _));have rX:aj (∀k,k∈ao (some (⟨g0,0,none⟩:Addr))->(L3.dh k).1≠L3.id):=fun k hk e=>by have hl:k<_:=mi.o.lt k hk;exact l8.o k hk (xL.2.2 k hl (e.trans xL.2.1))
      have H3:=ae h3;clear h3 xL dN fu dR df H2 mi l8;cases st with
      |true=>
       cases Wh with
       |true=>
        have pR:keep.length<l0.length:=(by omega)
        have HB:aj (Fr [] w6 (w6.alloc (.cells #[.int .i64 n] 3))):=aR _ _;have U7:aj ((w6.alloc (.cells #[.int .i64 n] 3)).cell? ⟨w6.heap.size,0,none⟩=some (.int .i64 n)):=(At.new w6 _ _).cell 0;go_wp2_with (at_builtin;(refine mZ _ rfl _ _ rfl g0 c0 keep.length (cd (keep++l0.drop keep.length)) rfl (aB.o.fY HB.o) ⟨w6.heap.size,0,none⟩ 1 n rfl U7.o (by rw[bv,rg (by omega)];exact pR) ?_;intro w7 AJ jg))
        rw[MQ n pR]at AJ;have Mk:=ae AJ;have ad:Fr [g0] w6 w7:=(HB.o.mono (fun k hk=>by cases hk)).ak jg;have H7:=ae (H3.o.fr ad (fun k hk _=>by simp at hk;subst hk;exact rX.o k (by simp[ao])));have mP:=ae (U2.o.trans ad (fun k hk=>by simp at hk;subst hk;exact CX.o k (by simp[ao])));have Qi:=ae ar.o;have gF:=b4.o;simp only[if_true]at gF;have b3:=ae gF;have cz:aj (∀j∈keep++[n],j<J.list.length):=fun j hj=>by
         rcases ah.1 hj with h |h
         ·exact CW.o j h
         ·simp at h;rw[h];exact xp.o
        clear AJ jg ad gF HB U7 aB H3 U2;have gF:=b3.o;try simp only[if_true]at gF
        have b2:=ae gF;clear gF;go_roundg (gk-1);case measure=>have :=HI.o;omega
        case rel=>exact⟨i+1,keep++[n],q1,L3,by have :=HI.o;omega,by simp;omega,by simp,by go_num,b2.o,Qi.o.1.less (by simp;omega),cz.o,⟨by rw[Qi.o.2.2.1];exact sB.o.1,by rw[Qi.o.2.1];exact sB.o.2.1,by rw[Qi.o.2.2.2.2];exact sB.o.2.2⟩,H7.o,jt.o,mP.o,Mk.o,rX.o⟩
       |false=>
        have pR:keep.length<l0.length:=(by omega)
        have HB:aj (Fr [] w6 (w6.alloc (.cells #[.int .i64 n] 3))):=aR _ _;have U7:aj ((w6.alloc (.cells #[.int .i64 n] 3)).cell? ⟨w6.heap.size,0,none⟩=some (.int .i64 n)):=(At.new w6 _ _).cell 0;go_wp2_with (at_builtin;(refine mZ _ rfl _ _ rfl g0 c0 keep.length (cd (keep++l0.drop keep.length)) rfl (aB.o.fY HB.o) ⟨w6.heap.size,0,none⟩ 1 n rfl U7.o (by rw[bv,rg (by omega)];exact pR) ?_;intro w7 AJ jg))
        rw[MQ n pR]at AJ;have Mk:=ae AJ;have ad:Fr [g0] w6 w7:=(HB.o.mono (fun k hk=>by cases hk)).ak jg;have H7:=ae (H3.o.fr ad (fun k hk _=>by simp at hk;subst hk;exact rX.o k (by simp[ao])));have mP:=ae (U2.o.trans ad (fun k hk=>by simp at hk;subst hk;exact CX.o k (by simp[ao])));have Qi:=ae ar.o;have gF:=b4.o;simp only[if_true]at gF;have b3:=ae gF;have cz:aj (∀j∈keep++[n],j<J.list.length):=fun j hj=>by
         rcases ah.1 hj with h |h
         ·exact CW.o j h
         ·simp at h;rw[h];exact xp.o
        clear AJ jg ad gF HB U7 aB H3 U2;have qK:cy<L3.ws.length:=by rw[H7.o.uf,Qi.o.2.2.2.2,sB.o.2.2];have :=I1.o;rw[bB.o]at this;exact this
        obtain⟨gw,xJ,sw,fw⟩:=H7.o.whd qK;obtain⟨-,-,-,-,c4,-⟩:=H7.o.cells;rw[xJ,jt.o.1]at c4;have IY:aj (L.a∉ao (some ⟨g0,0,none⟩)):=fun hm=>rX.o _ hm (H7.o.kR (.inl (by rw[jt.o.1])));have rW:aj (gw∉ao (some ⟨g0,0,none⟩)):=fun hm=>rX.o _ hm (H7.o.kR (.inr (.inr (.inr (.inr (.inl (by rw[xJ];simp[ao])))))));have I4:=ae c4;have oJ:=ae sw;have Qu:=ae fw;have Qr:=ae xJ;have gF:=b3.o;try simp only[bu,if_false]at gF
        rw[VH.o]at gF;have Vw:=ae gF;have Tp:cy<L3.ws.length:=qK;have Qv:=ae Tp;have Vz:aj (eH=(VR.1,some n)):=by
         rcases xo.o with h1 |⟨n',h1,h2⟩
         ·rw[<-Vw.o]at h1;simp at h1
         ·have e:n'=n:=by rw[<-Vw.o]at h1;simpa using h1.symm
          rw[h2,e];rfl
        have ek:keep.length+1<=i+1:=(by omega)
        have UT:aj (∀k:Nat,k<(cd (l0.drop (i+1))).length->w7.cell? ⟨g0,i+1+k,none⟩=some (.int .i64 (cd (l0.drop (i+1)))[k]!)):=fun k hk=>by rw[bv,List.length_drop]at hk;have h1:=Mk.o.cell (i:=i+1+k) (by rw[bv,rg (by simp;omega)];omega);rw[h1,rG,rG,MR (by simp;omega) (by omega),zR]
        have cf:(cd (l0.drop (i+1))).length=l0.length-(i+1):=(by rw[bv,List.length_drop])
        have ds:=ae cf;have en:IntKind.i64.wrap ((i:Int)+1)=(i:Int)+1:=IntWalk.i64_in _ (by omega);have nq:(i:Int)+1<=l0.length:=(by omega)
        have Cy:(0:Int)<=(i:Int)+1:=(by omega)
        have kZ:i+1<=l0.length:=(by omega)
        have Tz:i+1<=c0:=(by omega)
        clear gF sw fw xJ c4 qK cf;by_cases vK:c0=i+1
        ·subst vK;refine qan ?_;refine bw (fun w':World=>Fr [g0] w7 w') 13 (by kernel_rfl) ((Fr.refl _ w7).drew) (fun dy=> ?_);refine oI 10 [(0,[]),(1,[]),(2,[]),(3,[3,13]),(4,[]),(6,[]),(7,[]),(8,[]),(9,[]),(10,[])] dy (fun w bT=>And.intro (bT.bF IY.o I4.o) (bT.bF rW.o oJ.o)) ?_;intro dy;refine R2 5 dy fun K hK aM=> ?_
         (go_simp;refine(KC.o _).mono ?_;rintro e w5 ⟨rfl,rfl⟩;dsimp only)
         refine hK.out _ _ (.inr ?_) (fun nO=> ?_)
         ·first |exact aM.ak kc |exact aM
         clear hK K;try simp only[Act.put,q5,q6,q7]
         refine R2 11 nO fun K hK aM=> ?_
         (refine qi rfl _ _ rfl g0 (i+1) (keep.length+1) (cd ((keep++[n])++l0.drop (keep++[n]).length)) rfl ?G0 ⟨g0,0,none⟩ 0 0 [] rfl rfl (fun k hk=>absurd hk (by simp)) (by rw[bv,rg (by simp;omega)];simp;omega) ?_;(case G0=>first |exact Mk.o.drew |exact Mk.o);intro w8 Nr kc)
         refine hK.out _ _ (.inr ?_) (fun jO=> ?_)
         ·first |exact aM.ak kc |exact aM
         clear hK K;try simp only[Act.put,q5,q6,q7]
         refine TB 1 [(12,[])] jO ?_;intro jO;refine R2 13 jO fun K hK aM=> ?_
         (have sb:=aM.bF rW.o oJ.o;have fb:World.frozen? _ _=_:=(World.frozen?_of_block (aM.block gw (bR oJ.o) rW.o)).trans Qu.o;go_simp)
         refine hK.out _ _ (.inl rfl) (fun mU=> ?_);clear hK K;try simp only[Act.put,q5,q6,q7]
         refine fO ?_;have hcut:(cd ((keep++[n])++l0.drop (keep++[n]).length)).take (keep.length+1)=cd (keep++[n]):=by have :=yb (keep:=keep++[n]) (l0:=l0);rw[an,aV]at this;rw[an,aV];exact this
         have dU:l0.drop (i+1)=[]:=List.drop_eq_nil_of_le (by omega);have ea:l0.length-(i+1)=0:=(by omega)
         have bb:Ints w8 (some ⟨g0,0,none⟩) (i+1) (cd ((keep++[n])++l0.drop (i+1))):=by have :=Nr.qg (keep.length+1);rw[hcut,cq,oO (by rw[bv];simp),dv (by rw[bv];simp)]at this;rw[dU,cq];exact this
         obtain⟨Lr,fu,_,L8,h8,tt,Ev,WE,rT⟩:=H7.o.XK (c:=cy) Qv.o (A0:=some ⟨g0,0,none⟩) rX.o bb aM (fun k hk=> .inl hk);obtain rfl :gw=Lr:=by rw[Qr.o]at fu;simpa using fu
         have S9:((keep++[n])++l0.drop (i+1)).length=keep.length+1+(l0.length-(i+1)):=by simp;omega
         rw[S9,ea]at h8 rT;have PG:L.ext L8 w:=by
          refine⟨tt.trans jt.o.1,Ev.trans jt.o.2.1,fun k hk e=> ?_⟩;rcases WE k (aS hk mP.o.size) (e.trans jt.o.2.1.symm)with h1 |h1
          ·exact jt.o.2.2 k hk (h1.trans jt.o.2.1)
          ·rcases CX.o k h1 with h2 |h2
           ·exact(aO.cj.1 h2).2
           ·omega
         have TF:=mP.o.trans rT (fun k hk=>by
          rcases ah.1 hk with h1 |h1
          ·exact CX.o k h1
          ·rw[aO.cj]at h1;rcases bN k w.heap.size with hl |hl
           ·exact .inl (aO.cj.2 ⟨hl,jt.o.2.2 k hl (h1.2.trans jt.o.2.1)⟩)
           ·exact .inr hl)
         have zB:q1.cJ cy ((keep++[n])++l0.drop (i+1))=VR.1:=(by rw[<-Vw.o])
         rw[zB]at h8;have FF:=ae (pT.o VR.1 (some n) Vz.o _ L8 h8 PG TF);clear Nr kc bb h8 PG TF zB aM rT;go_wp2;go_ret;exact FF.o
        ·have eh:c0-(i+1)≠0:=(by omega)
         refine qan ?_;refine bw (fun w':World=>Fr [g0] w7 w') 13 (by kernel_rfl) ((Fr.refl _ w7).drew) (fun dy=> ?_);refine oI 10 [(0,[]),(1,[]),(2,[]),(3,[3,13]),(4,[]),(6,[]),(7,[]),(8,[]),(9,[]),(10,[])] dy (fun w bT=>And.intro (bT.bF IY.o I4.o) (bT.bF rW.o oJ.o)) ?_;intro dy;refine R2 5 dy fun K hK aM=> ?_
         (go_simp;refine(KC.o _).mono ?_;rintro e w5 ⟨rfl,rfl⟩;dsimp only)
         refine hK.out _ _ (.inr ?_) (fun nO=> ?_)
         ·first |exact aM.ak kc |exact aM
         clear hK K;try simp only[Act.put,q5,q6,q7]
         refine R2 11 nO fun K hK aM=> ?_
         (refine qi rfl _ _ rfl g0 c0 (keep.length+1) (cd ((keep++[n])++l0.drop (keep++[n]).length)) rfl ?GZ ⟨g0,i+1,none⟩ (l0.length-(i+1)) (c0-(i+1)) (cd (l0.drop (i+1))) ds.o rfl ?Kr (by rw[bv,bv,rg (by simp;omega),List.length_drop];omega) ?_;(case GZ=>first |exact Mk.o.drew |exact Mk.o);(case Kr=>exact(fun k hk=>by rw[dQ];exact UT.o k hk));intro w8 Nr kc)
         refine hK.out _ _ (.inr ?_) (fun jO=> ?_)
         ·first |exact aM.ak kc |exact aM
         clear hK K;try simp only[Act.put,q5,q6,q7]
         refine TB 1 [(12,[])] jO ?_;intro jO;refine R2 13 jO fun K hK aM=> ?_
         (have sb:=aM.bF rW.o oJ.o;have fb:World.frozen? _ _=_:=(World.frozen?_of_block (aM.block gw (bR oJ.o) rW.o)).trans Qu.o;go_simp)
         refine hK.out _ _ (.inl rfl) (fun mU=> ?_);clear hK K;try simp only[Act.put,q5,q6,q7]
         refine fO ?_;have hcut:(cd ((keep++[n])++l0.drop (keep++[n]).length)).take (keep.length+1)=cd (keep++[n]):=by have :=yb (keep:=keep++[n]) (l0:=l0);rw[an,aV]at this;rw[an,aV];exact this
         have bb:Ints w8 (some ⟨g0,0,none⟩) c0 (cd ((keep++[n])++l0.drop (i+1))):=by
          have :=Nr.qg (keep.length+1+(l0.length-(i+1)));rw[hcut]at this;have e:(cd (keep++[n])++cd (l0.drop (i+1))).length=keep.length+1+(l0.length-(i+1)):=by rw[an,bv,bv,List.length_drop,an,aV]
          rw[oO (by rw[e];exact aq _),dv (by rw[e];exact aq _)]at this;unfold cd at this⊢;rw[bE];exact this
         obtain⟨Lr,fu,_,L8,h8,tt,Ev,WE,rT⟩:=H7.o.XK (c:=cy) Qv.o (A0:=some ⟨g0,0,none⟩) rX.o bb aM (fun k hk=> .inl hk);obtain rfl :gw=Lr:=by rw[Qr.o]at fu;simpa using fu
         have S9:((keep++[n])++l0.drop (i+1)).length=keep.length+1+(l0.length-(i+1)):=by simp;omega
         rw[S9]at h8 rT;have PG:L.ext L8 w:=by
          refine⟨tt.trans jt.o.1,Ev.trans jt.o.2.1,fun k hk e=> ?_⟩;rcases WE k (aS hk mP.o.size) (e.trans jt.o.2.1.symm)with h1 |h1
          ·exact jt.o.2.2 k hk (h1.trans jt.o.2.1)
          ·rcases CX.o k h1 with h2 |h2
           ·exact(aO.cj.1 h2).2
           ·omega
         have TF:=mP.o.trans rT (fun k hk=>by
          rcases ah.1 hk with h1 |h1
          ·exact CX.o k h1
          ·rw[aO.cj]at h1;rcases bN k w.heap.size with hl |hl
           ·exact .inl (aO.cj.2 ⟨hl,jt.o.2.2 k hl (h1.2.trans jt.o.2.1)⟩)
           ·exact .inr hl)
         have zB:q1.cJ cy ((keep++[n])++l0.drop (i+1))=VR.1:=(by rw[<-Vw.o])
         rw[zB]at h8;have FF:=ae (pT.o VR.1 (some n) Vz.o _ L8 h8 PG TF);clear Nr kc bb h8 PG TF zB aM rT;go_wp2;go_ret;exact FF.o
      |false=>
       have dn:=dD.o rfl;subst dn;have gF:=b4.o;simp only[bu,if_false,if_true]at gF;have b2:=ae gF;clear gF;go_wp2;go_roundg (gk-1);case measure=>have :=HI.o;omega
       case rel=>exact⟨i+1,keep,q1,L3,by have :=HI.o;omega,by omega,rfl,by go_num,b2.o,ar.o.1.less (by simp),CW.o,⟨by rw[ar.o.2.2.1];exact sB.o.1,by rw[ar.o.2.1];exact sB.o.2.1,by rw[ar.o.2.2.2.2];exact sB.o.2.2⟩,H3.o,jt.o,U2.o,aB.o,rX.o⟩
     ·obtain rfl :i=l0.length:=by omega
      clear HI;have qK:cy<L2.ws.length:=by rw[H2.o.uf,sB.o.2.2];have :=I1.o;rw[bB.o]at this;exact this
      obtain⟨gw,xJ,sw,fw⟩:=H2.o.whd qK;obtain⟨-,-,-,-,c4,-⟩:=H2.o.cells;rw[xJ,dR.o.1]at c4;have IY:aj (L.a∉ao (some ⟨g0,0,none⟩)):=fun hm=>l8.o _ hm (H2.o.kR (.inl (by rw[dR.o.1])));have rW:aj (gw∉ao (some ⟨g0,0,none⟩)):=fun hm=>l8.o _ hm (H2.o.kR (.inr (.inr (.inr (.inr (.inl (by rw[xJ];simp[ao])))))));have I4:=ae c4;have oJ:=ae sw;have Qu:=ae fw;have Qr:=ae xJ;have gF:=bj.o;rw[List.drop_length]at gF;simp only[Sv.cg]at gF;rw[VH.o]at gF;have xG:=H2.o.qab qK;have Jd:=H2.o.sV cy qK;have QR:=qR.o.room cy;have SU:∀k,k∈ao (L2.ws[cy]!).A->k∉ao (some ⟨g0,0,none⟩):=fun k hk hm=>l8.o k hm (H2.o.kR (.inr (.inr (.inr (.inr (.inr (.inr (.inr (.inr (.inr ⟨cy,qK,hk⟩))))))))));unfold Sv.gG at xG gF;rw[xG]at QR gF;obtain⟨⟨A9,c9,l9⟩,Kd⟩:∃x,L2.ws[cy]! =x:=⟨_,rfl⟩
      rw[Kd]at sw Jd QR gF SU;rw[Kd]at oJ;simp only at sw Jd QR gF oJ SU;have Fx:=ae Jd;have Vw:=ae gF;have Hb:Ints wr (some ⟨g0,0,none⟩) c0 (cd keep):=by have :=mi.o.qg keep.length;rw[yb]at this;exact this
      have aK:=ae Hb;have Tp:cy<L2.ws.length:=qK;have Qv:=ae Tp;have Vz:aj (Sv.dE f { VR.1 with head:=J.head+1 }=eH):=by
       rcases xo.o with h1 |⟨n,h1,_⟩
       ·exact h1.1
       ·rw[<-Vw.o]at h1;simp at h1
      have dq:keep.length<=4398046511104:=(by omega)
      clear Kd xG Jd gF Hb sw fw xJ c4 qK;go_upto_region 17 with fail;refine qan ?_;refine bw (fun w':World=>Fr (ao (some ⟨g0,0,none⟩)) wr w') 17 (by kernel_rfl) ((Fr.refl _ wr).drew) (fun dy=> ?_);refine oI 11 [(0,[]),(1,[]),(2,[]),(3,[3,17]),(4,[]),(6,[]),(7,[]),(8,[]),(9,[]),(10,[10,17]),(11,[])] dy (fun w bT=>And.intro (bT.bF IY.o I4.o) (bT.bF rW.o oJ.o)) ?_;intro dy;refine R2 5 dy fun K hK aM=> ?_
      (go_simp;refine(KC.o _).mono ?_;rintro e w5 ⟨rfl,rfl⟩;dsimp only)
      refine hK.out _ _ (.inr ?_) (fun jO=> ?_)
      ·first |exact aM.ak jg |exact aM
      clear hK K;try simp only[Act.put,q5,q6,q7]
      refine R2 12 jO fun K hK aM=> ?_
      (go_simp;refine(KC.o _).mono ?_;rintro e w5 ⟨rfl,rfl⟩;dsimp only)
      refine hK.out _ _ (.inr ?_) (fun oE=> ?_)
      ·first |exact aM.ak jg |exact aM
      clear hK K;try simp only[Act.put,q5,q6,q7]
      refine oI 2 [(13,[]),(14,[14,17])] oE (fun w bT=>And.intro (bT.bF IY.o I4.o) (bT.bF rW.o oJ.o)) ?_;intro oE;refine R2 15 oE fun K hK aM=> ?_
      (refine od rfl _ _ rfl (some ⟨g0,0,none⟩) c0 (cd keep) _ rfl (bv keep).symm ?GY A9 _ c9 (cd l9) (bv l9) rfl ?Kq (by rw[bv,bv];omega) ?_;(case GY=>first |exact aK.o.drew |exact aK.o);(case Kq=>first |exact Fx.o.drew |exact Fx.o);intro A' cap w7 AJ jg ZD b9)
      refine hK.out _ _ (.inr ?_) (fun lR=> ?_)
      ·first |exact aM.ak jg |exact aM
      clear hK K;try simp only[Act.put,q5,q6,q7]
      refine TB 1 [(16,[])] lR ?_;intro lR;refine R2 17 lR fun K hK aM=> ?_
      (have sb:=aM.bF rW.o oJ.o;have fb:World.frozen? _ _=_:=(World.frozen?_of_block (aM.block gw (bR oJ.o) rW.o)).trans Qu.o;go_simp)
      refine hK.out _ _ (.inl rfl) (fun k6=> ?_);clear hK K;try simp only[Act.put,q5,q6,q7]
      refine fO ?_;have Nr:Ints w7 A' cap (cd (keep++l9)):=by have :=AJ;unfold cd at this⊢;rw[bE];exact this
      obtain⟨Lr,fu,_,L8,h8,tt,Ev,WE,kc⟩:=H2.o.XK (c:=cy) Qv.o (A0:=(some ⟨g0,0,none⟩)) l8.o Nr aM (fun k hk=>(ZD k hk).imp id (fun e=>by rw[e];exact aq _));obtain rfl :gw=Lr:=by rw[Qr.o]at fu;simpa using fu
      simp only[an]at h8 kc;obtain⟨W8,Vo⟩:∃W,w7.setCell ⟨gw,cy,none⟩ (.slice A' (keep.length+l9.length) cap)=W:=⟨_,rfl⟩
      rw[Vo]at h8 kc⊢;have PG:L.ext L8 w:=by
       refine⟨tt.trans dR.o.1,Ev.trans dR.o.2.1,fun k hk e=> ?_⟩;rcases WE k (aS hk df.o.size) (e.trans dR.o.2.1.symm)with h1 |h1
       ·exact dR.o.2.2 k hk (h1.trans dR.o.2.1)
       ·rcases CX.o k h1 with h2 |h2
        ·exact(aO.cj.1 h2).2
        ·omega
      have TF:Fr (L.own w) w W8:=df.o.trans kc (fun k hk=>by
       rcases ah.1 hk with h1 |h1
       ·exact CX.o k h1
       ·rw[aO.cj]at h1;rcases bN k w.heap.size with hl |hl
        ·exact .inl (aO.cj.2 ⟨hl,dR.o.2.2 k hl (h1.2.trans dR.o.2.1)⟩)
        ·exact .inr hl)
      have zB:S2.cJ cy (keep++l9)=VR.1:=(by rw[<-Vw.o])
      rw[zB]at h8;have ba:=LW.o.2.2.1;have a1:VR.1.head=J.head:=ba;have yh:VR.1.vars=J.vars:=LW.o.2.1;have bS:J.T.lits.length<=VR.1.T.lits.length:=by have :=Sv.m7 off l0 [] (J.cJ cy []);rw[Q6.o]at this;exact this
      have c8:=h8.cells.2.2.2.2.2.2.2.2.1;have f8:=h8.obj.frozen 8;rw[a1]at c8;rw[tt.trans dR.o.1]at c8 f8;obtain⟨h9,rT⟩:=h8.ya (J.head+1);rw[tt.trans dR.o.1]at h9 rT;have H9:=ae h9;have th:=ae (aO.aQ PG TF rT);have bG:=ae PG;have Q9:aj (({ VR.1 with head:=J.head+1 }:Sv).Ok 0):=(by have o:=LW.o.1;exact⟨o.vl,o.tr,o.hi,o.hl,o.ph,o.wl,o.ll,o.wb,o.wt,o.lr,o.ln,o.lb,by show J.head+1<=VR.1.T.lits.length;omega,o.rs⟩:({ VR.1 with head:=J.head+1 }:Sv).Ok 0)
      have b1:=ae yh;have dV:J.head<=262143:=(by omega)
      clear Vo h8 kc PG TF zB ba a1 yh bS h9 rT AJ jg ZD b9 Nr WE tt Ev aM;go_wp2;go_roundg f;case measure=>omega
      case rel=>exact⟨{ VR.1 with head:=J.head+1 },L8,Vz.o,(by show VR.1.vars+1<=f+(J.head+1);have :=bI.o;have :=b1.o;omega),Q9.o,H9.o,bG.o,th.o⟩

  ·have hd:decide ((J.head:Int)<(J.T.lits.length:Int))=false:=qaj (by omega);have c6:aj (eH=(J,none)):=by have h1:=tz.o;rw[pq bt]at h1;exact h1.symm
   go_wp2;refine ap ?_;repeat (go_big_quiet_step (exact bp (KL.o _)))
   refine fq ?_;intro w2 aT;have FF:=ae (pT.o J none c6.o w2 L1 (H1.o.keep aT.o) fH.o (dZ.o.ak (aT.o.mono (fun k hk=>by cases hk))));clear e0 e8 c0 c8 KL hd;go_wp2;go_ret;exact FF.o
theorem PC.len{V:Hp}(h:PC V):V.items.length<=V.at_.length:=by
 have hn:(V.items.map Int.toNat).Nodup:=by
  unfold List.Nodup;rw[List.pairwise_map,List.pairwise_iff_getElem];intro i j hi hj Nq e;have ri:=h.pG i hi;have rj:=h.pG j hj;have J:V.items[i]! =V.items[i]:=by simp[aa,af hi]
  have gj:V.items[j]! =V.items[j]:=by simp[aa,af hj]
  have :=h.inj hi hj (by rw[J,gj];rw[J]at ri;rw[gj]at rj;omega);omega
 have :=lM V.at_.length _ hn (fun x hx=>by
  rw[aN]at hx;obtain⟨y,hy,rfl⟩:=hx;obtain⟨i,hi,e⟩:=List.getElem_of_mem hy;have ri:=h.pG i hi;have J:V.items[i]! =V.items[i]:=by simp[aa,af hi]
  rw[J,e]at ri;omega)
 simpa using this
theorem gK.cw(L:gK)(w:World):L.ext L w:=⟨rfl,fun _ h=> .inl h,fun h=>h⟩
theorem zz(w:World)(L:gK)(H:Hp)(h:cT w L H)(hi:HI H)(hl:H.at_.length<=262145)(x:Int):
  Calls Tryz.prog 114 #[.pointer (some ⟨L.a,0,none⟩), .int .i64 x] w fun e w'=>∃b,e= .returned (.bool b)/\∃L',cT w' L' (Sv.fW H x)/\L.ext L' w/\Fr L.fp w w':=by
 unfold Sv.fW;have nV:=hi.pc.len;by_cases J:H.kb x=true/\H.pl x<0
 ·rw[qai J];refine(Bm w L H h hi.pc.pG x J.1 J.2 (by omega)).mono ?_;rintro e w' ⟨rfl,L',h1,h2,h3⟩;exact⟨_,rfl,L',h1,h2,h3⟩
 ·rw[qah J];refine(Ey w L H h x ?_).mono ?_
  ·cases hc:H.kb x with
   |false=>exact .inl rfl
   |true=>exact .inr ⟨rfl,Int.not_lt.1 fun h=>J ⟨hc,h⟩⟩
  rintro e w' ⟨rfl,rfl⟩;exact⟨_,rfl,L,h,gK.cw _ _,Fr.refl _ _⟩
theorem Hm(w:World)(L:gK)(H:Hp)(h:cT w L H)(hi:HI H)(x b:Int):
  Calls Tryz.prog 178 #[.pointer (some ⟨L.a,0,none⟩), .int .i64 x, .int .i64 b] w fun e w'=>e= .returned (.tuple #[])/\cT w' L (Sv.nH H x b)/\Fr L.fp w w':=by
 unfold Sv.nH;by_cases J:H.kb x=true/\0<=b/\b<=1099511627776/\H.sc x<=1125899906842624-b
 ·rw[qai J];obtain⟨h1,h2,h3,h4⟩:=J;have hx:=Hp.dP h1;have hs:=hi.sc0 x.toNat (by rw[<-hi.same];omega);have Cr:H.pl x<H.items.length:=by
   unfold Hp.pl;by_cases h0:0<=H.at_[x.toNat]!
   ·have :=(hi.pc.inv x.toNat (by omega) h0).1;omega
   ·omega
  exact zy w L H h hi.pc.pG x b h1 h2 h3 h4 hs Cr
 ·rw[qah J];refine(Bl w L H h x b J).mono ?_;rintro e w' ⟨rfl,rfl⟩;exact⟨rfl,h,Fr.refl _ _⟩
theorem HI.fW{H:Hp}(h:HI H)(x:Int):HI (Sv.fW H x)/\(Sv.fW H x).at_.length=H.at_.length:=by
 unfold Sv.fW;split
 ·rename_i J;have :=h.push J.1 J.2;exact⟨this.1,this.2.2.2.1⟩
 ·exact⟨h,rfl⟩
theorem bh.Y0{w:World}{L:aO}{S:Sv}(h:bh w L S){v:Nat}(hv:v<S.phase.length)(b:Bool):
  ∃J,L.pA=some ⟨J,0,none⟩/\w.cell? ⟨J,v,none⟩=some (.bool S.phase[v]!)/\w.frozen? ⟨J,v,none⟩=false/\bh (w.setCell ⟨J,v,none⟩ (.bool b)) L { S with phase:=S.phase.set v b }/\Fr (L.own w) w (w.setCell ⟨J,v,none⟩ (.bool b)):=by
 have r:=h.wv;unfold Bools at r;obtain⟨J,hg,wX⟩:∃J,L.pA=some ⟨J,0,none⟩/\J<w.heap.size:=by
  rcases r.2 with⟨_,h2⟩ |⟨g,cap,cur,hv,_,hg,_⟩
  ·omega
  ·simp only[Value.slice.injEq,true_and]at hv;exact⟨g,hv.1,At.lt (t:=4) hg⟩
 rw[hg]at r;have mH:L.dh J=(L.id,5,0):=h.t5 J (by rw[hg];simp[ao]);have hf:Fr [J] w (w.setCell ⟨J,v,none⟩ (.bool b)):=(Fr.refl _ w).setCell (.inl (by simp)) _;have o:=h.off (P:=(· =(5,0))) hf (fun k hk hl=>⟨_,rfl,by simp at hk;subst hk;exact mH⟩);have pO:=(World.ownsRow.stored r v (.bool b)).1;refine⟨J,hg,?_,World.ownsRow.frozenAt r v,⟨?_,o.tr (by decide),o.hp (by decide),h.jf,h.CJ,h.CI,o.wD (by decide),o.rws (by decide),?_,o.yd (by decide),o.vm (by decide),fun n hn=>o.qM n hn (by simp),fun n hn=>o.sV n hn (by simp),
  h.t0,h.t1,h.t2,h.t3,h.t4,h.t5,h.t6,h.t7,h.t8,h.t9⟩,aO.iJ hf (fun k hk hl=>by simp at hk;subst hk;rw[mH])⟩
 ·rw[World.ownsRow.cellAt r v (by omega)];simp only[aZ,af hv,dA,aa,aJ]
 ·have :=o.obj (by decide);simp only[qm,aw]at this⊢;exact this
 ·unfold Bools;simp only[aw,List.map_set];rw[hg];exact pO
theorem bh.aaA{w:World}{L:aO}{S:Sv}(h:bh w L S){v:Nat}(hv:v<S.phase.length):
  ∃J,L.pA=some ⟨J,0,none⟩/\w.cell? ⟨J,v,none⟩=some (.bool S.phase[v]!)/\w.frozen? ⟨J,v,none⟩=false:=by
 obtain⟨J,h1,h2,h3,_⟩:=h.Y0 hv false;exact⟨J,h1,h2,h3⟩
namespace Sv
def sz(S:Sv)(l:Int):Sv:={ S with phase:=S.phase.set (tv l).toNat (decide (0<l)),H:=fW S.H (tv l) }
theorem Al{S:Sv}{level l:Int}{r:List Int}(h:¬S.T.dF (tv l)<=level):eI level (l::r) S=eI level r (S.sz l):=by simp only[eI];rw[qah h];rfl
theorem sZ{S:Sv}{level l:Int}{r:List Int}(h:S.T.dF (tv l)<=level):eI level (l::r) S=S:=by simp only[eI];rw[qai h]
theorem Ok.sz{S:Sv}{m:Nat}(ok:S.Ok m)(l:Int):(S.sz l).Ok m:=by obtain⟨h1,J⟩:=ok.hi.fW (tv l);exact⟨ok.vl,ok.tr,h1,by show(Sv.fW S.H (tv l)).at_.length=_;rw[J];exact ok.hl,by show(S.phase.set _ _).length=_;rw[aw];exact ok.ph,ok.wl,ok.ll,ok.wb,ok.wt,ok.lr,ok.ln,ok.lb,ok.hd,ok.rs⟩
theorem Ok.cut{S:Sv}{m:Nat}(ok:S.Ok m)(level:Nat)(hl:level<S.T.levels.length):
  ({ S with T:=S.T.dz level,head:=min S.head (S.T.dz level).lits.length }:Sv).Ok m/\(S.T.dz level).levels.length=level:=by
 obtain⟨R,J⟩:=ok.tr;have hb:=J.back level hl;have hd:=hb.dep;have kZ:TRep (S.T.dz level) S.vars (R.filter (fun e:St=>decide (e.l<=(level:Int)))) (S.T.dz level).levels.length:=by rw[hd];exact hb
 refine⟨⟨ok.vl,⟨_,kZ⟩,ok.hi,ok.hl,ok.ph,ok.wl,ok.ll,ok.wb,ok.wt,ok.lr,ok.ln,ok.lb,Nat.min_le_right _ _,fun v=> ?_⟩,hd⟩;have e:=hb.fV v;have e0:=J.fV v;have ab:=ok.rs v;show 0<=(S.T.dz level).fV v/\(S.T.dz level).fV v<=_;rw[e];cases hk:look (R.filter (fun e:St=>decide (e.l<=(level:Int)))) v with
 |none=>simp
 |some x=>
  obtain⟨hm,hv⟩:=jH hk;have hx:=jd J.nd (gh.1 hm).1;rw[hv]at hx;rw[hx]at e0;simp only at e0⊢;rw[<-e0];exact ab
theorem kJ(level:Int):∀(r:List Int)(S:Sv)(m:Nat),S.Ok m->(eI level r S).Ok m/\(eI level r S).T=S.T/\(eI level r S).head=S.head/\(eI level r S).vars=S.vars/\(eI level r S).list=S.list
 |[],S,m,ok=>⟨ok,rfl,rfl,rfl,rfl⟩
 |l::r,S,m,ok=>by
  by_cases h:S.T.dF (tv l)<=level
  ·rw[sZ h];exact⟨ok,rfl,rfl,rfl,rfl⟩
  ·rw[Al h];exact kJ level r _ m (ok.sz l)
theorem Ok.back{S:Sv}{m:Nat}(ok:S.Ok m)(level:Nat):(S.back level).Ok m/\(S.back level).vars=S.vars/\(S.back level).list=S.list:=by
 unfold Sv.back;split
 ·exact⟨ok,rfl,rfl⟩
 ·rename_i h;obtain⟨h1,J,h3,h4,h5⟩:=kJ (level:Int) S.T.lits.reverse S m ok;have :=(h1.cut level (by rw[J];omega)).1;exact⟨this,h4,h5⟩
end Sv
theorem JY{x:Int}(h: -9223372036854775808<x):(if x< -x then -x else x)=tv x:=by
 by_cases J:x<0
 ·rw[qai (by omega),sF J h]
 ·rw[qah (by omega),oU (by omega)]
theorem tT{l:List Int}{n:Nat}(h:n<l.length):(l.take (n+1)).reverse=l[n]! ::(l.take n).reverse:=by rw[List.take_add_one,List.reverse_append];simp only[aa,af h,eD,List.reverse_cons,List.reverse_nil,List.nil_append,List.cons_append,aJ]
theorem Sv.Ok.qX{S:Sv}{m:Nat}(ok:S.Ok m){i:Nat}(h:i<S.T.lits.length):1<=tv S.T.lits[i]! /\tv S.T.lits[i]! <=S.vars/\ -(S.vars:Int)<=S.T.lits[i]! /\S.T.lits[i]! <=S.vars/\S.T.lits[i]! ≠0:=by
 obtain⟨R,hR⟩:=ok.tr;have hm:S.T.lits[i]! ∈S.T.lits:=get_mem h;generalize S.T.lits[i]! =x at hm⊢;rw[hR.lits,aN]at hm;obtain⟨e,he,rfl⟩:=hm;have J:=hR.bound e he;have hv:=ok.vl;refine⟨J.2.2.1,J.2.2.2,?_⟩;have h3:=J.2.2.1;have h4:=J.2.2.2;unfold tv at h3 h4;split at h3
 ·omega
 ·split at h3
  ·rename_i h5 h6;rw[qah h5,qai h6]at h4;omega
  ·rename_i h5 h6;rw[qah h5,qah h6]at h4;omega
theorem Sv.Ok.aew{S:Sv}{m:Nat}(ok:S.Ok m):S.T.Inv:=by obtain⟨R,J⟩:=ok.tr;exact J.inv
theorem Sv.Ok.io{S:Sv}{m:Nat}(ok:S.Ok m):S.T.lits.length<=S.vars:=by obtain⟨R,J⟩:=ok.tr;have :=J.io;rw[J.lits,aG];exact this
theorem rI{T:Tr}{i:Nat}(h:i<T.lits.length):T.atB (i:Int)=T.lits[i]! :=by unfold Tr.atB;rw[qai (by omega),Int.toNat_natCast]
theorem XM{L L':aO}{w w':World}(h:L.ext L' w')(hs:w.heap.size<=w'.heap.size):L.ext L' w:=⟨h.1,h.2.1,fun k hk e=>h.2.2 k (aS hk hs) e⟩
theorem py(w:World)(L:aO)(S:Sv)(h:bh w L S)(m:Nat)(ok:S.Ok m)(level:Nat)(oD:level<4611686018427387904):
  Calls Tryz.prog 77 #[.pointer (some ⟨L.a,0,none⟩), .int .i64 level] w (pB (.tuple #[]) (S.back level) L w):=by
 have HH:=ae h;have lh:=ae ok;have lP:=ok.vl;have AH:=ok.io;obtain⟨c0,-⟩:=h.cells;have e0:=Ext.cell c0;have KD:=ae (m9 w L.tL S.T h.tr);have KL:=ae (mc w L.tL S.T h.tr);by_cases hs:S.T.levels.length<=level
 ·have hb:S.back level=S:=by unfold Sv.back;rw[qai hs]
  rw[hb];have pT:aj (pB (.tuple #[]) S L w (.returned (.tuple #[])) w):=⟨rfl,L,h,aO.cw _ _,Fr.refl _ _⟩
  have hd:decide ((S.T.levels.length:Int)<=(level:Int))=true:=qak (by omega);clear h ok hb;go_enter Tryz.func77,Tryz.ntmps77;go_wp2_with fail;refine KD.o.mono ?_;rintro e w1 ⟨rfl,rfl⟩;go_wp2_with fail;refine bodyPost_ret (results_none rfl _ _ _) rfl ?_;exact pT.o
 ·have hd:decide ((S.T.levels.length:Int)<=(level:Int))=false:=qaj (by omega);obtain⟨Q,hQ⟩:∃Q,Sv.eI (level:Int) S.T.lits.reverse S=Q:=⟨_,rfl⟩
  have hb:S.back level={ Q with T:=Q.T.dz level,head:=min Q.head (Q.T.dz level).lits.length }:=by unfold Sv.back;rw[qah hs,hQ]
  have aT:=Sv.kJ (level:Int) S.T.lits.reverse S m ok;rw[hQ]at aT;obtain⟨B,hB⟩:∃B,S.back level=B:=⟨_,rfl⟩
  rw[hB]at hb⊢;have HB:=ae hb;have HQ:=ae hQ;have bO:=ae aT;have bo:aj (S.T.lits.take S.T.lits.length=S.T.lits):=cN;have UN:=ae (Nat.lt_of_not_le hs);clear h ok hb hQ hB aT e0;go_enter Tryz.func77,Tryz.ntmps77;go_wp2_with fail;refine KD.o.mono ?_;rintro e w1 ⟨rfl,rfl⟩;go_wp2_with fail;refine KL.o.mono ?_;rintro e w1 ⟨rfl,rfl⟩;clear KD KL;go_wp2_with fail;clear c0;go_loopg [4] S.T.lits.length (fun g x4 wr=>∃(J:Sv)(L1:aO),g<=S.T.lits.length/\x4= .int .i64 ((g:Int)-1)/\aj (Sv.eI (level:Int) (S.T.lits.take g).reverse J=Q)/\aj (J.T=S.T/\J.vars=S.vars/\J.head=S.head)/\aj (J.Ok m)/\aj (bh wr L1 J)/\aj (L.ext L1 w)/\aj (Fr (L.own w) w wr));case atStart=>exact⟨S,L,aq _,by go_num,by rw[bo.o];exact HQ.o,⟨rfl,rfl,rfl⟩,lh.o,HH.o,aO.cw _ _,Fr.refl _ _⟩
  case round=>
   obtain⟨J,L1,hg,rfl,ab,sB,lZ,H1,fH,dZ⟩:=hrel;have nW:L1.a=L.a:=fH.o.1;obtain⟨c0,c1,-,-,-,c5,-,-,c8,-⟩:=H1.o.cells;rw[nW]at c0 c1 c5 c8;have vZ:=ae c0;have pX:=ae c1;have VJ:=ae c5;have bI:=ae c8;have a1:=ae nW;clear nW;by_cases bB:gk=0
   ·subst bB;have Oa:aj (J=Q):=ab.o;have Jg:decide ((0:Int)<=(((0:Nat):Int)-1))=false:=(by decide)
    clear c0 c1 c5 c8

    have KB:=yK wr L1.tL J.T H1.o.tr lZ.o.aew (level:Int);rw[Int.toNat_natCast,sB.o.1]at KB;have KB:=ae KB;have c0:=vZ.o;go_wp2_with fail;refine KB.o.mono ?_;clear KB;rintro e w2 ⟨rfl,SD,cE⟩;obtain⟨L2,g2,ZL,ZK⟩:=H1.o.yL SD (fo.cw _ _) cE;have Vi:J.T.dz level=Q.T.dz level:=(by rw[Oa.o])
    rw[sB.o.1.symm.trans (by rw[sB.o.1]) ]at g2;have G2:aj (bh w2 L2 { Q with T:=Q.T.dz level }):=by
     have e1:S.T=Q.T:=(by rw[<-Oa.o,sB.o.1])
     rw[<-e1,<-Oa.o];exact g2
    have dR:=ae (aO.a6 fH.o ZL dZ.o.size);have df:=ae (aO.aQ fH.o dZ.o ZK);have Mr:aj (L2.a=L.a):=dR.o.1;have kF:=G2.o.cells;rw[Mr.o]at kF;obtain⟨d0,-,-,-,-,-,-,-,d8,-⟩:=kF;have YQ:=ae d0;have U6:=ae d8;have wY:=G2.o.obj.frozen 8;rw[Mr.o]at wY;have ad:=ae wY;have KL:=ae (fun W (hW:Fr [] w2 W)=>mc W L2.tL (Q.T.dz level) (G2.o.tr.fr hW (by simp)));have SW:(if(Q.T.dz level).lits.length<Q.head then((Q.T.dz level).lits.length:Int)else(Q.head:Int))=((min Q.head (Q.T.dz level).lits.length:Nat):Int):=by rw[Nat.min_def];split<;>split<;>omega
    clear c0 SD cE g2 ZL ZK Vi d0 d8 wY;go_upto_region 10 with fail;refine qan ?_;refine bw (fun w':World=>Fr [] w2 w') 13 (by kernel_rfl) ((Fr.refl [] w2).drew) (fun dy=> ?_);refine oI 9 [(0,[]),(1,[]),(2,[]),(3,[]),(4,[4,13]),(5,[]),(6,[]),(7,[]),(8,[8,13])] dy (fun w bT=>And.intro (bT.aF U6.o) (bT.aF YQ.o)) ?_;intro dy;refine R2 9 dy fun K hK aM=> ?_
    (go_simp;refine(KL.o _ aM).mono ?_;rintro e w5 ⟨rfl,rfl⟩;dsimp only)
    refine hK.out _ _ (.inr ?_) (fun kG=> ?_)
    ·exact aM
    clear hK K;try simp only[Act.put,q5,q6,q7]
    refine TB 3 [(10,[]),(11,[]),(12,[])] kG ?_;intro kG;refine R2 13 kG fun K hK aM=> ?_
    (have sb:=aM.aF U6.o;have fb:World.frozen? _ _=_:=(World.frozen?_of_block (aM.block L.a (bR U6.o) (by simp))).trans ad.o;go_simp)
    refine hK.out _ _ (.inl rfl) (fun mU=> ?_);clear hK K;try simp only[Act.put,q5,q6,q7]
    refine fO ?_;have g5:=G2.o.ya (min Q.head (Q.T.dz level).lits.length);rw[Mr.o]at g5;try simp only[SW]
    have h6:=g5.1.keep (Fr.refl [] _).drew;have f6:=g5.2.drew;have hF:Fr (L.own w) w _:=aO.aQ dR.o df.o f6;have FF:aj (pB (.tuple #[]) B L w (.returned (.tuple #[])) _):=⟨rfl,L2,by rw[HB.o];exact h6,dR.o,hF⟩
    go_wp2_with fail;go_end0;exact FF.o
   ·obtain⟨i,rfl⟩:∃i,gk=i+1:=⟨gk-1,by omega⟩
    have sS:i<S.T.lits.length:=(by omega)
    have bt:((i+1:Nat):Int)-1=(i:Int):=(by omega)
    rw[bt];have Jg:decide ((0:Int)<=(i:Int))=true:=qak (by omega);obtain⟨x,hx⟩:∃x,S.T.lits[i]! =x:=⟨_,rfl⟩
    have nq:=ab.o;rw[tT sS,hx]at nq;have tB:=ae nq;have rN:=lh.o.qX sS;rw[hx]at rN;obtain⟨gU,jn,Sy,Sx,b0⟩:=rN;have KA:=ae (ml wr L1.tL J.T H1.o.tr (i:Int));rw[sB.o.1,rI sS,hx]at KA;have KV:=ae (kV wr L1.tL J.T H1.o.tr (tv x));obtain⟨lv,ar⟩:∃lv,J.T.dF (tv x)=lv:=⟨_,rfl⟩
    rw[ar]at KV;have ba:=ae ar;have tn:=JY (x:=x) (by omega);obtain⟨v,hv⟩:∃v:Nat,tv x=v:=⟨(tv x).toNat,by omega⟩
    rw[hv]at gU jn KV tn;have HV:=ae hv;have eo:IntKind.i64.wrap (-x)= -x:=IntWalk.i64_in _ (by omega);clear nq hx ar hv ab;go_wp2_with fail;refine KA.o.mono ?_;rintro e w1 ⟨rfl,rfl⟩;clear KA;by_cases hle:lv<=(level:Int)
    ·have xM:decide (lv<=(level:Int))=true:=qak hle;have Oa:aj (J=Q):=by have :=tB.o;rw[Sv.sZ (by rw[ba.o];exact hle)]at this;exact this
     go_wp2_with fail;refine KV.o.mono ?_;rintro e w1 ⟨rfl,rfl⟩;clear KV;clear c0 c1 c5 c8;have KB:=yK wr L1.tL J.T H1.o.tr lZ.o.aew (level:Int);rw[Int.toNat_natCast,sB.o.1]at KB;have KB:=ae KB;have c0:=vZ.o;go_wp2_with fail;refine KB.o.mono ?_;clear KB;rintro e w2 ⟨rfl,SD,cE⟩;obtain⟨L2,g2,ZL,ZK⟩:=H1.o.yL SD (fo.cw _ _) cE;have Vi:J.T.dz level=Q.T.dz level:=(by rw[Oa.o])
     rw[sB.o.1.symm.trans (by rw[sB.o.1]) ]at g2;have G2:aj (bh w2 L2 { Q with T:=Q.T.dz level }):=by
      have e1:S.T=Q.T:=(by rw[<-Oa.o,sB.o.1])
      rw[<-e1,<-Oa.o];exact g2
     have dR:=ae (aO.a6 fH.o ZL dZ.o.size);have df:=ae (aO.aQ fH.o dZ.o ZK);have Mr:aj (L2.a=L.a):=dR.o.1;have kF:=G2.o.cells;rw[Mr.o]at kF;obtain⟨d0,-,-,-,-,-,-,-,d8,-⟩:=kF;have YQ:=ae d0;have U6:=ae d8;have wY:=G2.o.obj.frozen 8;rw[Mr.o]at wY;have ad:=ae wY;have KL:=ae (fun W (hW:Fr [] w2 W)=>mc W L2.tL (Q.T.dz level) (G2.o.tr.fr hW (by simp)));have SW:(if(Q.T.dz level).lits.length<Q.head then((Q.T.dz level).lits.length:Int)else(Q.head:Int))=((min Q.head (Q.T.dz level).lits.length:Nat):Int):=by rw[Nat.min_def];split<;>split<;>omega
     clear c0 SD cE g2 ZL ZK Vi d0 d8 wY;go_upto_region 10 with fail;refine qan ?_;refine bw (fun w':World=>Fr [] w2 w') 13 (by kernel_rfl) ((Fr.refl [] w2).drew) (fun dy=> ?_);refine oI 9 [(0,[]),(1,[]),(2,[]),(3,[]),(4,[4,13]),(5,[]),(6,[]),(7,[]),(8,[8,13])] dy (fun w bT=>And.intro (bT.aF U6.o) (bT.aF YQ.o)) ?_;intro dy;refine R2 9 dy fun K hK aM=> ?_
     (go_simp;refine(KL.o _ aM).mono ?_;rintro e w5 ⟨rfl,rfl⟩;dsimp only)
     refine hK.out _ _ (.inr ?_) (fun kG=> ?_)
     ·exact aM
     clear hK K;try simp only[Act.put,q5,q6,q7]
     refine TB 3 [(10,[]),(11,[]),(12,[])] kG ?_;intro kG;refine R2 13 kG fun K hK aM=> ?_
     (have sb:=aM.aF U6.o;have fb:World.frozen? _ _=_:=(World.frozen?_of_block (aM.block L.a (bR U6.o) (by simp))).trans ad.o;go_simp)
     refine hK.out _ _ (.inl rfl) (fun mU=> ?_);clear hK K;try simp only[Act.put,q5,q6,q7]
     refine fO ?_;have g5:=G2.o.ya (min Q.head (Q.T.dz level).lits.length);rw[Mr.o]at g5;try simp only[SW]
     have h6:=g5.1.keep (Fr.refl [] _).drew;have f6:=g5.2.drew;have hF:Fr (L.own w) w _:=aO.aQ dR.o df.o f6;have FF:aj (pB (.tuple #[]) B L w (.returned (.tuple #[])) _):=⟨rfl,L2,by rw[HB.o];exact h6,dR.o,hF⟩
     go_wp2_with fail;go_end0;exact FF.o
    ·have xM:decide (lv<=(level:Int))=false:=qaj hle;have Az:aj (Sv.eI (level:Int) (S.T.lits.take i).reverse (J.sz x)=Q):=by have :=tB.o;rw[Sv.Al (by rw[ba.o];exact hle)]at this;exact this
     have bG:v<J.phase.length:=by rw[lZ.o.ph,sB.o.2.1];omega
     obtain⟨gp,Tj,sp,fp,h2,cE⟩:=H1.o.Y0 bG (decide (0<x));have aK:=h2.cells.2.1;rw[a1.o]at aK;have aB:=h2.cells.1;rw[a1.o]at aB;rw[Tj]at c5;have GR:(v:Int)<(J.phase.length:Int):=(by omega)
     go_wp2_with fail;refine KV.o.mono ?_;rintro e w1 ⟨rfl,rfl⟩;clear KV;go_upto_region 8 with fail;obtain⟨W2,ZF⟩:∃W,wr.setCell ⟨gp,v,none⟩ (.bool (decide (0<x)))=W:=⟨_,rfl⟩
     rw[ZF]at h2 cE aB aK⊢;have Th:J.H.at_.length<=262145:=by rw[lZ.o.hl,sB.o.2.1];omega
     have KP:=ae (zz W2 L1.hL J.H h2.hp lZ.o.hi Th (v:Int));have H2:=ae h2;have df:=ae cE;clear c0 c1 c5 c8 sp fp ZF h2 cE Tj xM tn eo aB;go_wp2_with fail;refine KP.o.mono ?_;clear KP;rintro e w3 ⟨b,rfl,bS,h3,xL,dN⟩;obtain⟨L3,g3,bb,bg⟩:=H2.o.heap h3 xL dN;have G3:aj (bh w3 L3 (J.sz x)):=by unfold Sv.sz;rw[HV.o,Int.toNat_natCast];exact g3
     have dG:aj (Fr (L1.own wr) wr w3):=df.o.trans bg (fun k hk=>by
      rw[aO.cj]at hk;rcases bN k wr.heap.size with hl |hl
      ·exact .inl (aO.cj.2 ⟨hl,hk.2⟩)
      ·exact .inr hl)
     have bj:=ae (XM bb df.o.size);clear g3 h3 xL dN bb bg aK;go_wp2;go_roundg i;case measure=>omega
     case rel=>exact⟨J.sz x,L3,by omega,by go_num,Az.o,⟨sB.o.1,sB.o.2.1,sB.o.2.2⟩,lZ.o.sz x,G3.o,aO.a6 fH.o bj.o dZ.o.size,aO.aQ fH.o dZ.o dG.o⟩
end Go.Proofs.YtpjbaobgnhjgoaaGreat
