/- Parts of a proof. -/
import Derived.Test.YtjmmpfjcpdepjaaGreatDoorGAC
set_option linter.unusedVariables false
set_option linter.unusedSimpArgs false
namespace Go.Proofs.YtjmmpfjcpdepjaaGreatDoor
open Go.RowKit
theorem aX.swap {w:World} {L:aO} {S:Sv} (h:aX w L S) {n i j:Nat} (hn:n<L.cs.length) (hi:i<(L.cs[n]!).lits.length) (hj:j<(L.cs[n]!).lits.length) {g:Nat} (hg:(L.cs[n]!).A=some ⟨g,0,none⟩):
  ∃L',aX ((w.setCell ⟨g,i,none⟩ (.int .i64 ((L.cs[n]!).lits[j]!))).setCell ⟨g,j,none⟩ (.int .i64 ((L.cs[n]!).lits[i]!))).drew L' (S.eI n (cS (L.cs[n]!).lits i j))/\L.ext L' w/\
   Fr (L.own w) w ((w.setCell ⟨g,i,none⟩ (.int .i64 ((L.cs[n]!).lits[j]!))).setCell ⟨g,j,none⟩ (.int .i64 ((L.cs[n]!).lits[i]!))).drew/\L'.cs=L.cs.set n { L.cs[n]! with lits:=cS (L.cs[n]!).lits i j }/\L'.tL=L.tL:=by
 have hr:=h.ql n hn;have Tm:=hr;rw[hg]at Tm;have hI:=((Tm.eu i ((L.cs[n]!).lits[j]!)).eu j ((L.cs[n]!).lits[i]!)).drew;have hf:Fr [g] w ((w.setCell ⟨g,i,none⟩ (.int .i64 ((L.cs[n]!).lits[j]!))).setCell ⟨g,j,none⟩ (.int .i64 ((L.cs[n]!).lits[i]!))).drew:=(((Fr.refl [g] w).setCell (.inl (by simp)) _).setCell (.inl (by simp)) _).drew;obtain⟨L',h1,h2,h3,h4,h5,h6,h7⟩:=h.W3 hn (ls:=cS (L.cs[n]!).lits i j) (F:=[g]) (by rw[hg];exact hI) (fO _ _ _) hf (fun k hk _=>by simp at hk;subst hk;exact h.t8 n hn k (by rw[hg];simp[ak]));exact⟨L',h1,h2,h3,h4,h7⟩
set_option maxRecDepth 100000 in
set_option maxHeartbeats 8000000 in
theorem C4 (w:World) (L:aO) (S:Sv) (h:aX w L S) (m:Nat) (ok:S.Ok (m+1)) (n:Nat) (hn:n<S.list.length) (off:Int):
  Calls Tryz.prog 167 #[.pointer (some ⟨L.a,0,none⟩), .int .i64 n, .int .i64 off] w (pz (.tuple #[.bool (S.dg n off).2.1, .bool (S.dg n off).2.2]) (S.dg n off).1 L w):=by
 have sl:n<L.cs.length:=by rw[h.ot];exact hn
 have eE:=h.qC sl;obtain⟨gc,jv,x0,-,-⟩:=h.qz sl;have gV:=h.ql n sl;have Kf:=ok.ln n;have yE:=ok.lb n;have jU:=fun k hk=>ok.lit (n:=n) (k:=k) hk;rw[eE]at Kf yE jU;simp only[Cw.rc]at Kf yE jU;have tZ:=aa (fun i j g h1 h2 h3=>h.swap (i:=i) (j:=j) (g:=g) sl h1 h2 h3);obtain⟨⟨A,c,l,b,ac⟩,hx⟩:∃x,L.cs[n]! =x:=⟨_,rfl⟩
 rw[hx]at eE x0 gV Kf yE jU tZ;simp only[Cw.rc]at eE x0 gV Kf yE jU tZ;have mV:=aa gV;have HH:=aa h;have lz:=aa ok;have HVL:=ok.vl;have qh:=ok.ll;obtain⟨c0,-,-,c3,-⟩:=h.cells;rw[jv]at c3;have vS:=aa c0;have Sd:=aa (show(S.rc n).lits=l by rw[eE]);obtain⟨VF,hVF⟩:∃VF,S.dg n off=VF:=⟨_,rfl⟩
 have X4:=aa hVF;rw[hVF];have na:Hid (∀(S':Sv) (r1 r2:Bool),VF=(S',r1,r2)->∀W L',aX W L' S'->L.ext L' w->Fr (L.own w) w W->pz (.tuple #[.bool VF.2.1, .bool VF.2.2]) VF.1 L w (.returned (.tuple #[.bool r1, .bool r2])) W):=fun S' r1 r2 e W L' g1 g2 g3=>by subst e;exact⟨rfl,L',g1,g2,g3⟩
 have HNR:=aa hn;have Kg:=h.ot;have aoR:Hid (L.cs.length=S.list.length):=Kg;clear hVF eE gV h hx;by_cases tc:l.length=0
 ·have Wk:Hid (VF=(S,false,true)):=(by rw[<-X4.out];unfold Sv.dg;rw[aae (by rw[Sd.out];exact tc)]:VF=(S,false,true))
  have F0:=aa (fun W hW=>na.out S false true Wk.out W L (HH.out.keep hW) (aO.cv _ _) (hW.mono (fun k hk=>by cases hk)));have hd:((l.length:Int)==0)=true:=by simp[tc]
  clear X4 Wk na tZ;go_enter Tryz.func167,Tryz.ntmps167;go_wp2_with fail;go_ret2;exact F0.out _ (Fr.refl _ _)
 ·have m6:2<=l.length:=by omega
  have aeg:0<l.length:=by omega
  have asu:1<l.length:=by omega
  have hd:((l.length:Int)==0)=false:=by rw[aar];omega
  have NS:Hid (VF=(S.cP n off).fZ n):=(by rw[<-X4.out];unfold Sv.dg;rw[aac (by rw[Sd.out];exact tc)]:VF=(S.cP n off).fZ n)
  obtain⟨gb,hA,uy⟩:=mV.out.pos (i:=0) (by omega);subst hA;have FO:=mV.out.cell (i:=0) (by omega);have Nx:=mV.out.cell (i:=1) (by omega);have fr0:=mV.out.frozen 0;have fr1:=mV.out.frozen 1;have Jm:=aa jU;clear jU X4;by_cases uW:l[0]! =off
  ·have HT:Hid (S.cP n off=S.eI n (cS l 0 1)):=(by unfold Sv.cP;rw[Sd.out,aae uW]:S.cP n off=S.eI n (cS l 0 1))
   have hto:=lz.out.cP n off;have hts:=Sv.oW S n off;rw[HT.out]at hto hts NS;have adR:((S.eI n (cS l 0 1)).rc n).lits=cS l 0 1:=by rw[Sv.lR,aae ⟨rfl,HNR.out⟩]
   have D8:(cS l 0 1)[0]! =l[1]! :=by rw[mG (by omega) (by omega) (by omega)];simp
   obtain⟨y0,jX⟩:∃y,l[0]! =y:=⟨_,rfl⟩
   obtain⟨y1,iP⟩:∃y,l[1]! =y:=⟨_,rfl⟩
   have D7:=Jm.out 1 (by omega);obtain⟨L1,g1,g2,g3,g4,g5⟩:=tZ.out 0 1 gb (by omega) (by omega) rfl;have vH:=((mV.out.eu 0 l[1]!).eu 1 l[0]!).drew.cell (i:=0) (by simp;omega);rw[iP]at D8 D7;rw[jX,iP]at g1 g3 vH;rw[jX]at FO uW;rw[iP]at Nx;have vH:((w.setCell ⟨gb,0,none⟩ (.int .i64 y1)).setCell ⟨gb,1,none⟩ (.int .i64 y0)).drew.cell? ⟨gb,0,none⟩=some (.int .i64 y1):=by rw[vH];simp only[ae];rw[List.getElem?_set_ne (by omega),List.getElem?_set_self (by omega)];rfl
   have hb:(y0==off)=true:=by simp[uW]
   have G1:=aa g1;have G2:=aa g2;have G3:=aa g3;have FU:=aa vH;have R8:=aa hto;have HTS:=aa hts;have aa7:=aa adR;have OJ:=aa D8;clear g1 g2 g3 g4 g5 vH hto hts adR D8 uW jX iP HT;go_enter Tryz.func167,Tryz.ntmps167;go_upto_region 5 with fail;go_region;go_upto_region 6 with fail;obtain⟨W1,jO⟩:∃W,((w.setCell ⟨gb,0,none⟩ (.int .i64 y1)).setCell ⟨gb,1,none⟩ (.int .i64 y0)).drew=W:=⟨_,rfl⟩
   rw[jO]at G1 G3 FU⊢;obtain⟨S1,FN⟩:∃S1,S.eI n (cS l 0 1)=S1:=⟨_,rfl⟩
   rw[FN]at G1 NS R8 HTS aa7;rw[<-aa7.out]at OJ;clear jO FN aa7 c0 c3 x0 FO Nx fr0 fr1 tZ mV hb hd HH;have hT:=HTS.out.1;have ke:n<S1.list.length:=by rw[HTS.out.2.2.1];exact HNR.out
   have th:=aa ke;have c0:=G1.out.cells.1;rw[G2.out.1]at c0;have SQ:=aa c0;have CD:=aa R8.out.small;have Jc:=aa (fun u:Ext W1=>ee u.v L1.tL S1.T (G1.out.tr.fr u.fr (by simp)) y1 (by omega) (by omega) CD.out);obtain⟨v,hv⟩:∃v,S1.T.lB y1=v:=⟨_,rfl⟩
   have Ja:=aa hv;simp only[hv]at Jc;have e0:=Ext.cell c0;have ey:=Ext.cell FU.out;clear hv hT ke;by_cases hp:0<v
   ·have hd:decide (0<v)=true:=aai hp;have zj:Hid (VF=(S1,true,true)):=(by rw[NS.out];unfold Sv.fZ;simp only[OJ.out];rw[aae (by unfold Sv.val;rw[Ja.out];omega)]:VF=(S1,true,true))
    refine au (by kernel_rfl) (by kernel_rfl) ?_;repeat (go_big_quiet_step (exact bh (Jc.out _)))
    refine aak ?_;rintro w2 ⟨u2,b8⟩;have bj:Hid (Fr [] W1 w2):=b8▸u2.fr;clear b8 u2;have FF:=aa (na.out _ true true zj.out w2 L1 (G1.out.keep bj.out) G2.out (G3.out.ag (bj.out.mono (fun k hk=>by cases hk))));clear e0 ey c0;go_wp2_with fail;go_ret2;exact FF.out
   ·have hd:decide (0<v)=false:=aah hp;refine au (by kernel_rfl) (by kernel_rfl) ?_;repeat (go_big_quiet_step (exact bh (Jc.out _)))
    refine aak ?_;rintro w2 ⟨u2,b8⟩;have bj:Hid (Fr [] W1 w2):=b8▸u2.fr;clear b8 u2;clear e0 ey c0;have G12:=aa (G1.out.keep bj.out);have yt:=ui w2 L1 S1 G12.out (m+1) R8.out n th.out;rw[G2.out.1]at yt;have yt:=aa yt;go_wp2_with fail;refine yt.out.mono ?_;clear yt;rintro e w3 hc3;rcases hc3 with⟨rfl,hq,dh⟩ |⟨rfl,hq,L2,h2,jM,bW⟩
    ·have yN:=aa hq;have db:=aa (bj.out.ag dh);have G13:=aa (G12.out.keep dh);clear hq dh G12;have c0:=db.out.aN SQ.out;have cy:=db.out.aN FU.out;have e0:=Ext.cell c0;have ey:=Ext.cell cy;have Jb:=aa (fun u:Ext w3=>ee u.v L1.tL S1.T (G13.out.tr.fr u.fr (by simp)) y1 (by omega) (by omega) CD.out);simp only[Ja.out]at Jb;by_cases hng:v<0
     ·have qj:decide (v<0)=true:=aai hng;have zj:Hid (VF=(S1,true,false)):=(by rw[NS.out];unfold Sv.fZ;simp only[OJ.out];rw[aac (by unfold Sv.val;rw[Ja.out];omega),aac (by rw[yN.out];simp),aae (by unfold Sv.val;rw[Ja.out];omega)]:VF=(S1,true,false))
      go_upto_region 10 with fail;refine au (by kernel_rfl) (by kernel_rfl) ?_;repeat (go_big_quiet_step (exact bh (Jb.out _)))
      refine aak ?_;rintro w4 ⟨u2,b8⟩;have cG:Hid (Fr [] w3 w4):=b8▸u2.fr;clear b8 u2;have gY:=aa (db.out.ag cG.out);have FF:=aa (na.out _ true false zj.out w4 L1 (G13.out.keep cG.out) G2.out (G3.out.ag (gY.out.mono (fun k hk=>by cases hk))));clear e0 ey c0 cy;go_wp2_with fail;go_ret2;exact FF.out
     ·have qj:decide (v<0)=false:=aah hng;go_upto_region 10 with fail;refine au (by kernel_rfl) (by kernel_rfl) ?_;repeat (go_big_quiet_step (exact bh (Jb.out _)))
      refine aak ?_;rintro w4 ⟨u2,b8⟩;have cG:Hid (Fr [] w3 w4):=b8▸u2.fr;clear b8 u2;have gY:=aa (db.out.ag cG.out);have G4:=aa (G13.out.keep cG.out);have N5:=aa (gY.out.aN SQ.out);have HI4:=aa (gY.out.aN FU.out);have qO:Hid (S1.T.lits.length<17592186044416):=by
       obtain⟨R,hR⟩:=R8.out.tr;have h1:=hR.ic;have h2:S1.T.lits.length=R.length:=(by rw[hR.lits,aq])
       have h3:=R8.out.vl;show _<_;omega
      have aa9:=aa (fun W (hW:Fr [] w4 W)=>tm W L1.tL S1.T (G4.out.tr.fr hW (by simp)) y1 ((n:Int)+1) (by omega) (by omega) qO.out);have uX:n<2199023255552:=by have :=HNR.out;omega
      have dP:IntKind.i64.wrap ((n:Int)+1)=(n:Int)+1:=IntWalk.i64_in _ (by omega);clear e0 ey c0 cy;go_upto_region 12 with fail;refine aam ?_;refine bi (fun w':World=>Fr [] w4 w') 9 (by kernel_rfl) ((Fr.refl [] w4).drew) (fun cZ=> ?_);apply TB 9 [(0,[]),(1,[]),(2,[]),(3,[3,9]),(4,[]),(5,[]),(6,[6,9]),(7,[]),(8,[])];kernel_rfl;rfl;· (repeat (apply eH;rfl;rfl;(· intro w bl;(try(have bl:=bl.resolve_left (aF _ _);(have s0:=bl.aN N5.out;have s1:=bl.aN HI4.out)));go_simp<;>with_reducible rfl);try simp only[Act.put,q5,q6,q7]));exact eG
      exact cZ;intro cZ;refine R2 9 (by kernel_rfl) (by rfl) cZ fun K hK aw=> ?_
      (go_simp;refine(aa9.out _ aw).mono ?_;rintro e w5 ⟨rfl,tL2,Qa,Y4,Y3⟩;dsimp only)
      refine hK.out _ _ (.inl rfl) (fun js=> ?_);clear hK K;try simp only[Act.put,q5,q6,q7]
      refine aD (by kernel_rfl) ?_ _;refine NoPanic.normal ?_;have g4:=G4.out.keep aw;obtain⟨L5,h5,vE,ev⟩:=g4.vZ Qa Y4 Y3;have zj:Hid (VF=(S1.put y1 (n+1),true,true)):=(by rw[NS.out];unfold Sv.fZ;simp only[OJ.out];rw[aac (by unfold Sv.val;rw[Ja.out];omega),aac (by rw[yN.out];simp),aac (by unfold Sv.val;rw[Ja.out];omega)]:VF=(S1.put y1 (n+1),true,true))
      have hz:w.heap.size<=w4.heap.size:=aE G3.out.size gY.out.size;have hE:L.ext L5 w:=by refine⟨vE.1.trans G2.out.1,vE.2.1.trans G2.out.2.1,fun k hk e=>G2.out.2.2 k hk ?_⟩;have :=vE.2.2 k (aK hk (aE hz aw.size)) (e.trans G2.out.2.1.symm);exact this.trans G2.out.2.1
      have hF:Fr (L.own w) w w5:=aO.aQ G2.out G3.out (((gY.out.ag aw).mono (fun k hk=>by cases hk)).trans ev (fun k hk=>by
       rw[aO.bT]at hk;rcases bv k W1.heap.size with hl |hl
       ·exact .inl (aO.bT.2 ⟨hl,hk.2⟩)
       ·exact .inr hl))
      have FF:=aa (na.out _ true true zj.out w5 L5 h5 hE hF);go_wp2_with fail;go_ret2;exact FF.out
    ·have zj:Hid (VF=((S1.dz n).1,false,true)):=(by rw[NS.out];unfold Sv.fZ;simp only[OJ.out];rw[aac (by unfold Sv.val;rw[Ja.out];omega),aae hq]:VF=((S1.dz n).1,false,true))
     have hz:w.heap.size<=w2.heap.size:=aE G3.out.size bj.out.size;have hE:L.ext L2 w:=by refine⟨jM.1.trans G2.out.1,jM.2.1.trans G2.out.2.1,fun k hk e=>G2.out.2.2 k hk ?_⟩;have :=jM.2.2 k (aK hk hz) (e.trans G2.out.2.1.symm);exact this.trans G2.out.2.1
     have hF:Fr (L.own w) w w3:=aO.aQ G2.out G3.out ((bj.out.mono (fun k hk=>by cases hk)).trans bW (fun k hk=>by
      rw[aO.bT]at hk;rcases bv k W1.heap.size with hl |hl
      ·exact .inl (aO.bT.2 ⟨hl,hk.2⟩)
      ·exact .inr hl))
     have FF:=aa (na.out _ false true zj.out w3 L2 h2 hE hF);clear hq h2 jM bW;go_wp2_with fail;go_ret2;exact FF.out
  ·have HT:Hid (S.cP n off=S):=(by unfold Sv.cP;rw[Sd.out,aac uW]:S.cP n off=S)
   rw[HT.out]at NS;obtain⟨y1,iP⟩:∃y,l[0]! =y:=⟨_,rfl⟩
   have D7:=Jm.out 0 (by omega);rw[iP]at D7 FO uW;have hb:(y1==off)=false:=by simp[uW]
   have FU:=aa FO;have OJ:Hid ((S.rc n).lits[0]! =y1):=(by rw[Sd.out];exact iP:(S.rc n).lits[0]! =y1)
   have G1:=HH;have G2:=aa (aO.cv L w);have G3:Hid (Fr (L.own w) w w):=Fr.refl _ _;have R8:=lz;have HTS:Hid (S.T=S.T/\S.vars=S.vars/\S.list.length=S.list.length/\S.head=S.head/\S.H=S.H/\S.watch=S.watch):=⟨rfl,rfl,rfl,rfl,rfl,rfl⟩
   obtain⟨L1,yJ⟩:∃L1,L1=L:=⟨_,rfl⟩
   have G1:Hid (aX w L1 S):=by rw[yJ];exact HH.out
   have G2:Hid (L.ext L1 w):=by rw[yJ];exact aO.cv L w
   obtain⟨W1,jO⟩:∃W1,W1=w:=⟨_,rfl⟩
   obtain⟨S1,FN⟩:∃S1,S1=S:=⟨_,rfl⟩
   clear uW iP HT tZ mV Jm;go_enter Tryz.func167,Tryz.ntmps167;go_upto_region 6 with fail;rw[<-FN]at R8;have HTS:Hid (S1.T=S.T/\S1.vars=S.vars/\S1.list.length=S.list.length/\S1.head=S.head/\S1.H=S.H/\S1.watch=S.watch):=by rw[FN];exact⟨rfl,rfl,rfl,rfl,rfl,rfl⟩
   have G1:Hid (aX W1 L1 S1):=by rw[jO,FN];exact G1.out
   have G3:Hid (Fr (L.own w) w W1):=by rw[jO];exact G3.out
   have FU:Hid (W1.cell? ⟨gb,0,none⟩=some (.int .i64 y1)):=by rw[jO];exact FU.out
   have OJ:Hid ((S1.rc n).lits[0]! =y1):=by rw[FN];exact OJ.out
   have NS:Hid (VF=S1.fZ n):=by rw[FN];exact NS.out
   rw[show Code.wp _ _ _ _ w=Code.wp _ _ _ _ W1 from by rw[jO]];clear jO FN yJ c0 c3 x0 FO Nx fr0 fr1 hb hd HH;have hT:=HTS.out.1;have ke:n<S1.list.length:=by rw[HTS.out.2.2.1];exact HNR.out
   have th:=aa ke;have c0:=G1.out.cells.1;rw[G2.out.1]at c0;have SQ:=aa c0;have CD:=aa R8.out.small;have Jc:=aa (fun u:Ext W1=>ee u.v L1.tL S1.T (G1.out.tr.fr u.fr (by simp)) y1 (by omega) (by omega) CD.out);obtain⟨v,hv⟩:∃v,S1.T.lB y1=v:=⟨_,rfl⟩
   have Ja:=aa hv;simp only[hv]at Jc;have e0:=Ext.cell c0;have ey:=Ext.cell FU.out;clear hv hT ke;by_cases hp:0<v
   ·have hd:decide (0<v)=true:=aai hp;have zj:Hid (VF=(S1,true,true)):=(by rw[NS.out];unfold Sv.fZ;simp only[OJ.out];rw[aae (by unfold Sv.val;rw[Ja.out];omega)]:VF=(S1,true,true))
    refine au (by kernel_rfl) (by kernel_rfl) ?_;repeat (go_big_quiet_step (exact bh (Jc.out _)))
    refine aak ?_;rintro w2 ⟨u2,b8⟩;have bj:Hid (Fr [] W1 w2):=b8▸u2.fr;clear b8 u2;have FF:=aa (na.out _ true true zj.out w2 L1 (G1.out.keep bj.out) G2.out (G3.out.ag (bj.out.mono (fun k hk=>by cases hk))));clear e0 ey c0;go_wp2_with fail;go_ret2;exact FF.out
   ·have hd:decide (0<v)=false:=aah hp;refine au (by kernel_rfl) (by kernel_rfl) ?_;repeat (go_big_quiet_step (exact bh (Jc.out _)))
    refine aak ?_;rintro w2 ⟨u2,b8⟩;have bj:Hid (Fr [] W1 w2):=b8▸u2.fr;clear b8 u2;clear e0 ey c0;have G12:=aa (G1.out.keep bj.out);have yt:=ui w2 L1 S1 G12.out (m+1) R8.out n th.out;rw[G2.out.1]at yt;have yt:=aa yt;go_wp2_with fail;refine yt.out.mono ?_;clear yt;rintro e w3 hc3;rcases hc3 with⟨rfl,hq,dh⟩ |⟨rfl,hq,L2,h2,jM,bW⟩
    ·have yN:=aa hq;have db:=aa (bj.out.ag dh);have G13:=aa (G12.out.keep dh);clear hq dh G12;have c0:=db.out.aN SQ.out;have cy:=db.out.aN FU.out;have e0:=Ext.cell c0;have ey:=Ext.cell cy;have Jb:=aa (fun u:Ext w3=>ee u.v L1.tL S1.T (G13.out.tr.fr u.fr (by simp)) y1 (by omega) (by omega) CD.out);simp only[Ja.out]at Jb;by_cases hng:v<0
     ·have qj:decide (v<0)=true:=aai hng;have zj:Hid (VF=(S1,true,false)):=(by rw[NS.out];unfold Sv.fZ;simp only[OJ.out];rw[aac (by unfold Sv.val;rw[Ja.out];omega),aac (by rw[yN.out];simp),aae (by unfold Sv.val;rw[Ja.out];omega)]:VF=(S1,true,false))
      go_upto_region 10 with fail;refine au (by kernel_rfl) (by kernel_rfl) ?_;repeat (go_big_quiet_step (exact bh (Jb.out _)))
      refine aak ?_;rintro w4 ⟨u2,b8⟩;have cG:Hid (Fr [] w3 w4):=b8▸u2.fr;clear b8 u2;have gY:=aa (db.out.ag cG.out);have FF:=aa (na.out _ true false zj.out w4 L1 (G13.out.keep cG.out) G2.out (G3.out.ag (gY.out.mono (fun k hk=>by cases hk))));clear e0 ey c0 cy;go_wp2_with fail;go_ret2;exact FF.out
     ·have qj:decide (v<0)=false:=aah hng;go_upto_region 10 with fail;refine au (by kernel_rfl) (by kernel_rfl) ?_;repeat (go_big_quiet_step (exact bh (Jb.out _)))
      refine aak ?_;rintro w4 ⟨u2,b8⟩;have cG:Hid (Fr [] w3 w4):=b8▸u2.fr;clear b8 u2;have gY:=aa (db.out.ag cG.out);have G4:=aa (G13.out.keep cG.out);have N5:=aa (gY.out.aN SQ.out);have HI4:=aa (gY.out.aN FU.out);have qO:Hid (S1.T.lits.length<17592186044416):=by
       obtain⟨R,hR⟩:=R8.out.tr;have h1:=hR.ic;have h2:S1.T.lits.length=R.length:=(by rw[hR.lits,aq])
       have h3:=R8.out.vl;show _<_;omega
      have aa9:=aa (fun W (hW:Fr [] w4 W)=>tm W L1.tL S1.T (G4.out.tr.fr hW (by simp)) y1 ((n:Int)+1) (by omega) (by omega) qO.out);have uX:n<2199023255552:=by have :=HNR.out;omega
      have dP:IntKind.i64.wrap ((n:Int)+1)=(n:Int)+1:=IntWalk.i64_in _ (by omega);clear e0 ey c0 cy;go_upto_region 12 with fail;refine aam ?_;refine bi (fun w':World=>Fr [] w4 w') 9 (by kernel_rfl) ((Fr.refl [] w4).drew) (fun cZ=> ?_);apply TB 9 [(0,[]),(1,[]),(2,[]),(3,[3,9]),(4,[]),(5,[]),(6,[6,9]),(7,[]),(8,[])];kernel_rfl;rfl;· (repeat (apply eH;rfl;rfl;(· intro w bl;(try(have bl:=bl.resolve_left (aF _ _);(have s0:=bl.aN N5.out;have s1:=bl.aN HI4.out)));go_simp<;>with_reducible rfl);try simp only[Act.put,q5,q6,q7]));exact eG
      exact cZ;intro cZ;refine R2 9 (by kernel_rfl) (by rfl) cZ fun K hK aw=> ?_
      (go_simp;refine(aa9.out _ aw).mono ?_;rintro e w5 ⟨rfl,tL2,Qa,Y4,Y3⟩;dsimp only)
      refine hK.out _ _ (.inl rfl) (fun js=> ?_);clear hK K;try simp only[Act.put,q5,q6,q7]
      refine aD (by kernel_rfl) ?_ _;refine NoPanic.normal ?_;have g4:=G4.out.keep aw;obtain⟨L5,h5,vE,ev⟩:=g4.vZ Qa Y4 Y3;have zj:Hid (VF=(S1.put y1 (n+1),true,true)):=(by rw[NS.out];unfold Sv.fZ;simp only[OJ.out];rw[aac (by unfold Sv.val;rw[Ja.out];omega),aac (by rw[yN.out];simp),aac (by unfold Sv.val;rw[Ja.out];omega)]:VF=(S1.put y1 (n+1),true,true))
      have hz:w.heap.size<=w4.heap.size:=aE G3.out.size gY.out.size;have hE:L.ext L5 w:=by refine⟨vE.1.trans G2.out.1,vE.2.1.trans G2.out.2.1,fun k hk e=>G2.out.2.2 k hk ?_⟩;have :=vE.2.2 k (aK hk (aE hz aw.size)) (e.trans G2.out.2.1.symm);exact this.trans G2.out.2.1
      have hF:Fr (L.own w) w w5:=aO.aQ G2.out G3.out (((gY.out.ag aw).mono (fun k hk=>by cases hk)).trans ev (fun k hk=>by
       rw[aO.bT]at hk;rcases bv k W1.heap.size with hl |hl
       ·exact .inl (aO.bT.2 ⟨hl,hk.2⟩)
       ·exact .inr hl))
      have FF:=aa (na.out _ true true zj.out w5 L5 h5 hE hF);go_wp2_with fail;go_ret2;exact FF.out
    ·have zj:Hid (VF=((S1.dz n).1,false,true)):=(by rw[NS.out];unfold Sv.fZ;simp only[OJ.out];rw[aac (by unfold Sv.val;rw[Ja.out];omega),aae hq]:VF=((S1.dz n).1,false,true))
     have hz:w.heap.size<=w2.heap.size:=aE G3.out.size bj.out.size;have hE:L.ext L2 w:=by refine⟨jM.1.trans G2.out.1,jM.2.1.trans G2.out.2.1,fun k hk e=>G2.out.2.2 k hk ?_⟩;have :=jM.2.2 k (aK hk hz) (e.trans G2.out.2.1.symm);exact this.trans G2.out.2.1
     have hF:Fr (L.own w) w w3:=aO.aQ G2.out G3.out ((bj.out.mono (fun k hk=>by cases hk)).trans bW (fun k hk=>by
      rw[aO.bT]at hk;rcases bv k W1.heap.size with hl |hl
      ·exact .inl (aO.bT.2 ⟨hl,hk.2⟩)
      ·exact .inr hl))
     have FF:=aa (na.out _ false true zj.out w3 L2 h2 hE hF);clear hq h2 jM bW;go_wp2_with fail;go_ret2;exact FF.out
theorem qy (w:World) (ty:TypeId) (g c:Nat) (zs:List Int) (dw:Ints w (some ⟨g,0,none⟩) c zs) (j:Nat) (ad:Addr) (c':Nat) (ys:List Int) (hr:∀k:Nat,k<ys.length->w.cell? (ad.add k)=some (.int .i64 ys[k]!)) (hj:j+ys.length<=zs.length):
  ∃w',(Builtin.append_ #[22,22] ty #[.slice (some ⟨g,0,none⟩) j c, .slice (some ad) ys.length c']).run Tryz.prog w= .ok (.slice (some ⟨g,0,none⟩) (j+ys.length) c) w'/\
   Ints w' (some ⟨g,0,none⟩) c (zs.take j++ys++zs.drop (j+ys.length))/\Fr [g] w w':=by
 obtain⟨i0,hi,vy,nN,za⟩:=info_parts pT;rcases dw.2 with⟨h1,_⟩ |⟨g',cap,cur,hv,hb,hg,hn,hm,hs,ht⟩
 ·simp at h1
 ·simp only[Value.slice.injEq,Option.some.injEq,Addr.mk.injEq,true_and,and_true]at hv;obtain⟨rfl,rfl⟩:=hv;have ou:cur.size=c:=by simpa using hs
  have sl:zs.length<=c:=by simpa using hn
  have iV:=run_append_room (P:=Tryz.prog) w 22 ty 3 i0 Tryz.underlying22 hi g j c cur hg ad ys.length c' (ys.map (Value.int .i64)) (by rw[nN];simp) (fun k u hu=>by simp only[aJ,Option.map_eq_some_iff]at hu;obtain⟨y,hy,rfl⟩:=hu;have hk:=(lH.1 hy).1;have :=hr k hk;rw[ae,hy]at this;exact this) (by simp[Value.oneCell']) (by omega) (by rw[nN];simp;omega);have Ao:(cur.toList.take j++ys.map (Value.int .i64)++cur.toList.drop (j+ys.length)).toArray.size=c:=by simp only[List.size_toArray,aj,bp,List.length_drop,aq,Array.length_toList];omega
  rw[nN]at iV;simp only[ku,aq]at iV;refine⟨_,iV,⟨by simp, .inr ⟨g,c,_,?_,hb,setRow_heap w g cur _ 3 _ hg,?_,hm,?_,?_⟩⟩,⟨rfl,rfl,rfl,by simp,fun k _ hk=>setRow_other w g k _ (fun e=>hk (by simp[e]))⟩⟩
  ·rfl
  ·simp only[aj,bp,List.length_drop];omega
  ·rw[ku];exact Ao
  ·simp only[ku]at ht⊢;have hlen:(zs.take j++ys++zs.drop (j+ys.length)).length=zs.length:=by simp only[aj,bp,List.length_drop];omega
   rw[hlen,bH,bH,List.map_take,List.map_drop,<-ht];have e1:(cur.toList.take zs.length).take j=cur.toList.take j:=by rw[List.take_take,j4 (by omega)]
   rw[e1];have e2:(cur.toList.take zs.length).drop (j+ys.length)=(cur.toList.drop (j+ys.length)).take (zs.length-(j+ys.length)):=by rw[List.drop_take]
   rw[e2];have QI:(cur.toList.take j).length=j:=by rw[bp,Array.length_toList];omega
   have hL:(cur.toList.take j++ys.map (Value.int .i64)).length=j+ys.length:=by rw[aj,QI,aq]
   have hT:(cur.toList.take j++ys.map (Value.int .i64)).take zs.length=cur.toList.take j++ys.map (Value.int .i64):=dC (by rw[hL];exact hj);rw[List.take_append,hL,hT]
theorem lK (w:World) {ops:Array Oper} {rest:List Oper} {o:Oper} {a:Act} {Q:Exit->Act->World->Prop} (ow:o.guard=none) (s x:Operand)
  (ho:o.op= .call { callee:= .builtin .append,args:=#[s,x],argTypes:=#[22,22] }) (g c j:Nat) (zs:List Int) (hs:a.eval s= .slice (some ⟨g,0,none⟩) j c) (dw:Ints w (some ⟨g,0,none⟩) c zs)
  (ad:Addr) (c':Nat) (y:Int) (hx:a.eval x= .slice (some ad) 1 c') (hy:w.cell? ad=some (.int .i64 y)) (hj:j<zs.length)
  (h:∀w',Ints w' (some ⟨g,0,none⟩) c (zs.take j++[y]++zs.drop (j+1))->Fr [g] w w'->wpList Tryz.prog ops Q rest (a.put o.dst (.slice (some ⟨g,0,none⟩) (j+1) c)) w'):
  wpList Tryz.prog ops Q (o::rest) a w:=by
 refine wpList_plain ow fun K hK=> ?_;obtain⟨w',hr,h2,h3⟩:=qy w o.type g c zs dw j ad c' [y] (fun k hk=>by simp at hk;subst hk;rw[show ad.add 0=ad from aae rfl];exact hy) (by simp;omega);unfold Oper.wp execOp;simp only[bN]at hr h2;simp only[ho,resolve,invoke,builtin,Sem.run_bind,Sem.run_pure,Result.andThen_ok,List.map_toArray,cj,dv,hs,hx,hr];exact hK _ _ (h w' h2 h3)
theorem oY {w:World} {ops:Array Oper} {o:Oper} {a:Act} {K:Act->World->Prop} {Q:Exit->Act->World->Prop} {E:Prop} (ow:o.guard=none) (s x:Operand)
  (ho:o.op= .call { callee:= .builtin .append,args:=#[s,x],argTypes:=#[22,22] }) (g c j:Nat) (zs:List Int) (hs:a.eval s= .slice (some ⟨g,0,none⟩) j c) (dw:Ints w (some ⟨g,0,none⟩) c zs)
  (ad:Addr) (m c':Nat) (ys:List Int) (hm:ys.length=m) (hx:a.eval x= .slice (some ad) m c') (hr:∀k:Nat,k<ys.length->w.cell? (ad.add k)=some (.int .i64 ys[k]!)) (hj:j+ys.length<=zs.length)
  (h:∀w',Ints w' (some ⟨g,0,none⟩) c (zs.take j++ys++zs.drop (j+ys.length))->Fr [g] w w'->K (a.put o.dst (.slice (some ⟨g,0,none⟩) (j+m) c)) w'):
  if Region.wanted o (yielded ops a.tmps)=true then Oper.wp Tryz.prog o a w K Q else E:=by
 have hw:Region.wanted o (yielded ops a.tmps)=true:=by simp[Region.wanted,ow]
 rw[aae hw];subst hm;obtain⟨w',iV,h2,h3⟩:=qy w o.type g c zs dw j ad c' ys hr hj;unfold Oper.wp execOp;simp only[ho,resolve,invoke,builtin,Sem.run_bind,Sem.run_pure,Result.andThen_ok,List.map_toArray,cj,dv,hs,hx,iV];exact h w' h2 h3
theorem mH {w:World} {ops:Array Oper} {o:Oper} {a:Act} {K:Act->World->Prop} {Q:Exit->Act->World->Prop} {E:Prop} (ow:o.guard=none) (s x:Operand)
  (ho:o.op= .call { callee:= .builtin .append,args:=#[s,x],argTypes:=#[22,22] }) (A:Option Addr) (c:Nat) (xs:List Int) (n:Nat) (hs:a.eval s= .slice A n c) (hn:n=xs.length) (dw:Ints w A c xs)
  (B:Option Addr) (m c':Nat) (ys:List Int) (hm:ys.length=m) (hx:a.eval x= .slice B m c') (hr:Ints w B c' ys) (hlen:xs.length+ys.length<=17592186044416)
  (h:∀A' cap w',Ints w' A' cap (xs++ys)->Fr (ak A) w w'->(∀k,k∈ak A'->k∈ak A\/k=w.heap.size)->w.heap.size<=w'.heap.size->K (a.put o.dst (.slice A' (n+m) cap)) w'):
  if Region.wanted o (yielded ops a.tmps)=true then Oper.wp Tryz.prog o a w K Q else E:=by
 have hw:Region.wanted o (yielded ops a.tmps)=true:=by simp[Region.wanted,ow]
 rw[aae hw];subst hn hm;rcases hr.form with⟨rfl,rfl,rfl⟩ |⟨g,rfl,hg,_,_⟩
 ·obtain⟨i0,hi,vy,nN,za⟩:=info_parts pT;have hc:xs.length<=c:=by
   rcases dw.form with⟨_,_,rfl⟩ |⟨_,_,_,h1,_⟩
   ·simp
   ·exact h1
  have iV:(Builtin.append_ #[22,22] o.type #[.slice A xs.length c, .slice none 0 0]).run Tryz.prog w= .ok (.slice A xs.length c) w:=by cases A<;>simp[Builtin.append_,run_underlying Tryz.underlying22,sizeOf,typeInfo,hi,Builtin.lenOf,hc,Builtin.firstCells,loadCells,storeCells]
  unfold Oper.wp execOp;simp only[List.length_nil]at hx;simp only[ho,resolve,invoke,builtin,Sem.run_bind,Sem.run_pure,Result.andThen_ok,List.map_toArray,cj,dv,hs,hx,iV];have :=h A c w (by rw[bZ];exact dw) (Fr.refl _ _) (fun k hk=> .inl hk) (ap _);rw[List.length_nil,Nat.add_zero]at this;exact this
 ·have kq:=fun j (hj:j<ys.length)=>hr.cell hj;obtain⟨A',cap,w',iV,h2,h3,h4,h5,h6,h7⟩:=eN w 22 o.type 3 (.int .i64 0) 1 8 Tryz.underlying22 pT rfl (by decide) A c xs.length (xs.map (Value.int .i64)) dw ⟨g,0,none⟩ ys.length c' (ys.map (Value.int .i64)) (by simp) (fun j u hu=>by simp only[aJ,Option.map_eq_some_iff]at hu;obtain⟨y,hy,rfl⟩:=hu;have hj:=(lH.1 hy).1;have :=kq j hj;rw[ae,hy]at this;rw[dH,da];exact this) (by simp[Value.oneCell']) (by unfold maxLen;omega) (by omega);unfold Oper.wp execOp;simp only[ho,resolve,invoke,builtin,Sem.run_bind,Sem.run_pure,Result.andThen_ok,List.map_toArray,cj,dv,hs,hx,iV];refine h A' cap w' ?_ h3 h4 h5;unfold Ints;rw[aj,bH];exact h2
def aO.has (L:aO) (k:Nat):Prop:=k=L.a\/k∈L.tL.fp\/k∈L.hL.fp\/k∈ak L.cA\/k∈ak L.wA\/k∈ak L.pA\/k∈ak L.mA\/k∈ak L.oA\/(∃n:Nat,n<L.cs.length/\k∈ak (L.cs[n]!).A)\/(∃c:Nat,c<L.ws.length/\k∈ak (L.ws[c]!).A)
theorem aX.jN {w:World} {L:aO} {S:Sv} (h:aX w L S) {k:Nat} (hk:L.has k):(L.cY k).1=L.id:=by
 rcases hk with rfl |hk |hk |hk |hk |hk |hk |hk |⟨n,hn,hk⟩ |⟨c,hc,hk⟩
 ·rw[h.t0]
 ·rw[h.t1 k hk]
 ·rw[h.t2 k hk]
 ·rw[h.t3 k hk]
 ·rw[h.t4 k hk]
 ·rw[h.t5 k hk]
 ·rw[h.t6 k hk]
 ·rw[h.t7 k hk]
 ·rw[h.t8 n hn k hk]
 ·rw[h.t9 c hc k hk]
theorem aX.JS {w:World} {L:aO} {S:Sv} (h:aX w L S) (adh:Nat->Nat×Nat×Nat) (hh:∀k,L.has k->adh k=L.cY k):aX w { L with cY:=adh } S:=by
 refine⟨h.obj,h.tr,h.hp,h.iQ,h.Cb,h.B9,h.vt,h.rws,h.vp,h.yz,h.uQ,h.ql,h.sD,?_,fun k hk=> ?_,fun k hk=> ?_,fun k hk=> ?_,fun k hk=> ?_,fun k hk=> ?_,fun k hk=> ?_,fun k hk=> ?_,fun n hn k hk=> ?_,fun n hn k hk=> ?_⟩
 ·exact(hh _ (.inl rfl)).trans h.t0
 ·exact(hh _ (.inr (.inl hk))).trans (h.t1 k hk)
 ·exact(hh _ (.inr (.inr (.inl hk)))).trans (h.t2 k hk)
 ·exact(hh _ (.inr (.inr (.inr (.inl hk))))).trans (h.t3 k hk)
 ·exact(hh _ (.inr (.inr (.inr (.inr (.inl hk)))))).trans (h.t4 k hk)
 ·exact(hh _ (.inr (.inr (.inr (.inr (.inr (.inl hk))))))).trans (h.t5 k hk)
 ·exact(hh _ (.inr (.inr (.inr (.inr (.inr (.inr (.inl hk)))))))).trans (h.t6 k hk)
 ·exact(hh _ (.inr (.inr (.inr (.inr (.inr (.inr (.inr (.inl hk))))))))).trans (h.t7 k hk)
 ·exact(hh _ (.inr (.inr (.inr (.inr (.inr (.inr (.inr (.inr (.inl ⟨n,hn,hk⟩)))))))))).trans (h.t8 n hn k hk)
 ·exact(hh _ (.inr (.inr (.inr (.inr (.inr (.inr (.inr (.inr (.inr ⟨n,hn,hk⟩)))))))))).trans (h.t9 n hn k hk)
theorem aX.take {w:World} {L:aO} {S:Sv} (h:aX w L S) {c:Nat} (hc:c<L.ws.length):
  ∃gw,L.wA=some ⟨gw,0,none⟩/\gw<w.heap.size/\w.frozen? ⟨gw,c,none⟩=false/\∃L',aX (w.setCell ⟨gw,c,none⟩ (.slice none 0 0)) L' (S.cm c [])/\L.ext L' w/\Fr (L.own w) w (w.setCell ⟨gw,c,none⟩ (.slice none 0 0))/\
   Ints (w.setCell ⟨gw,c,none⟩ (.slice none 0 0)) (L.ws[c]!).A (L.ws[c]!).c (bO (L.ws[c]!).l)/\∀k,k∈ak (L.ws[c]!).A->(L'.cY k).1≠L'.id/\k∈L.own w:=by
 have gV:=h.sD c hc;obtain⟨gw,h1,h2,h3,L1,h4,h5,h6,h7⟩:=h.cm hc (A':=none) (c':=0) (l':=[]) (F:=[]) (w1:=w) (Ints.nil w) (Fr.refl _ _) (fun k hk=>by cases hk) (fun k hk=>by simp[ak]at hk);refine⟨gw,h1,h2,h3,?_⟩;simp only[List.length_nil]at h4 h6;have lf:=h.t9 c hc;have rE:∀k,k∈ak (L.ws[c]!).A->¬L1.has k:=fun k hk hh=>by
  have e1:=lf k hk;subst h7;rcases hh with rfl |hh |hh |hh |hh |hh |hh |hh |⟨n,hn,hh⟩ |⟨c',hc',hh⟩
  ·rw[h.t0]at e1;simp at e1
  ·rw[h.t1 k hh]at e1;simp at e1
  ·rw[h.t2 k hh]at e1;simp at e1
  ·rw[h.t3 k hh]at e1;simp at e1
  ·rw[h.t4 k hh]at e1;simp at e1
  ·rw[h.t5 k hh]at e1;simp at e1
  ·rw[h.t6 k hh]at e1;simp at e1
  ·rw[h.t7 k hh]at e1;simp at e1
  ·rw[h.t8 n hn k hh]at e1;simp at e1
  ·simp only[ao]at hc';simp only at hh;rw[ef]at hh;by_cases e:c=c'
   ·rw[aae ⟨e,hc⟩]at hh;simp[ak]at hh
   ·rw[aac (fun x=>e x.1)]at hh;rw[h.t9 c' hc' k hh]at e1;simp at e1;exact e e1.symm
 have hid:L1.id=L.id:=h5.2.1;refine⟨{ L1 with cY:=fun k=>if k∈ak (L.ws[c]!).A then(L1.id+1,0,0)else L1.cY k },h4.JS _ (fun k hk=>aac (fun hm=>rE k hm hk)),⟨h5.1,hid,fun k hk e=> ?_⟩,h6,?_,fun k hk=>⟨?_,?_⟩⟩
 ·simp only at e;split at e
  ·rw[hid]at e;simp at e
  ·exact h5.2.2 k hk e
 ·refine gV.gN (p:=⟨gw,c,none⟩) (fun hm=> ?_) _;have e1:=lf gw hm;rw[h.t4 gw (by rw[h1];simp[ak])]at e1;simp at e1
 ·simp only;rw[aae hk];simp
 ·rw[aO.bT];exact⟨gV.lt k hk,by rw[lf k hk]⟩
theorem aX.VX {w w1:World} {L:aO} {S:Sv} (h:aX w L S) {c:Nat} (hc:c<L.ws.length) {A0 A':Option Addr} {c':Nat} {l':List Nat} (hA0:∀k,k∈ak A0->(L.cY k).1≠L.id) (hi:Ints w1 A' c' (bO l'))
  (hf:Fr (ak A0) w w1) (hA:∀k,k∈ak A'->k∈ak A0\/w.heap.size<=k):
  ∃gw,L.wA=some ⟨gw,0,none⟩/\w1.frozen? ⟨gw,c,none⟩=false/\∃L',aX (w1.setCell ⟨gw,c,none⟩ (.slice A' l'.length c')) L' (S.cm c l')/\L'.a=L.a/\L'.id=L.id/\(∀k,k<w.heap.size->(L'.cY k).1=L.id->(L.cY k).1=L.id\/k∈ak A0)/\
   Fr (ak A0++L.own w) w (w1.setCell ⟨gw,c,none⟩ (.slice A' l'.length c')):=by
 have rE:∀k,L.has k->k∉ak A0:=fun k hk hm=>hA0 k hm (h.jN hk);have h2:=h.JS (fun k=>if k∈ak A0 then(L.id,9,c)else L.cY k) (fun k hk=>aac (rE k hk));obtain⟨gw,g1,g2,g3,L',g4,g5,g6,g7⟩:=h2.cm (c:=c) hc (l':=l') hi hf (fun k hk _=>aae hk) (fun k hk=>by
  rcases hA k hk with h3 |h3
  ·rcases bv k w.heap.size with hl |hl
   ·exact .inl ⟨hl,aae h3⟩
   ·exact .inr hl
  ·exact .inr h3)
 refine⟨gw,g1,g3,L',g4,g5.1,g5.2.1,fun k hk e=> ?_,g6.mono (fun k hk=> ?_)⟩
 ·have :=g5.2.2 k hk e;simp only at this;by_cases hm:k∈ak A0
  ·exact .inr hm
  ·rw[aac hm]at this;exact .inl this
 ·rw[aO.bT]at hk
  left
  by_cases hm:k∈ak A0
  ·exact an _ hm
  ·have e:=hk.2;simp only[aac hm]at e;exact bk _ (aO.bT.2 ⟨hk.1,e⟩)
namespace Sv
theorem Ok.oU (off:Int):∀(ws keep:List Nat) (S:Sv),S.Ok (keep.length+ws.length)->(∀n∈ws,n<S.list.length)->(∀n∈keep,n<S.list.length)->aS off<S.watch.length->
  (bU off ws keep S).1.Ok 0/\(bU off ws keep S).1.vars=S.vars/\(bU off ws keep S).1.head=S.head/\(bU off ws keep S).1.list.length=S.list.length/\∀n,(bU off ws keep S).2=some n->n<S.list.length
 |[],keep,S,ok,_,hk,hc=>by
  simp only[bU];refine⟨ok.cm hc (fun n hn=> ?_) (by simp;omega),rfl,rfl,rfl,fun n h=>by cases h⟩;rcases ah.1 hn with h |h
  ·exact hk n h
  ·exact ok.wb _ n h
 |n::r,keep,S,ok,hw,hk,hc=>by
  simp only[bU];have hn:=hw n (by simp);obtain⟨v1,v2,v3,v4,v5⟩:=(ok.less (m':=keep.length+r.length+1) (by simp;omega)).visit hn off;generalize S.dg n off=q at *;have Id:∀j∈(if q.2.1=true then keep++[n]else keep),j<q.1.list.length:=fun j hj=>by
   rw[v3];split at hj
   ·rcases ah.1 hj with h |h
    ·exact hk j h
    ·simp at h;omega
   ·exact hk j hj
  have tA:q.1.Ok ((if q.2.1=true then keep++[n]else keep).length+r.length):=by
   split
   ·rename_i h;rw[aae h]at v1;exact v1.less (by simp;omega)
   ·rename_i h;rw[aac h]at v1;exact v1
  split
  ·have ih:=Ok.oU off r _ q.1 tA (fun j hj=>by rw[v3];exact hw j (by simp[hj])) Id (by rw[v5];exact hc);exact⟨ih.1,by rw[ih.2.1,v2],by rw[ih.2.2.1,v4],by rw[ih.2.2.2.1,v3],fun j hj=>by have :=ih.2.2.2.2 j hj;omega⟩
  ·refine⟨tA.cm (by rw[v5];exact hc) (fun j hj=> ?_) (by simp <;>omega),v2,v4,v3,fun j hj=>by simp at hj;omega⟩;rcases ah.1 hj with h |h
   ·exact Id j h
   ·rw[v3];exact hw j (by simp[h])
theorem wJ (S:Sv) (x r:Int):S.T.lits.length<=(S.put x r).T.lits.length:=by
 unfold put;simp only;split
 ·simp[Tr.pb]
 ·exact ap _
theorem FZ (S:Sv) (n:Nat) (off:Int):S.T.lits.length<=(S.dg n off).1.T.lits.length:=by
 unfold dg;split
 ·exact ap _
 ·have e:=(oW S n off).1;rw[<-e];generalize S.cP n off=S1;unfold fZ;simp only;split
  ·exact ap _
  ·split
   ·rw[(qX S1 n).1];exact ap _
   ·split
    ·exact ap _
    ·exact wJ _ _ _
theorem lM (off:Int):∀(ws keep:List Nat) (S:Sv),S.T.lits.length<=(bU off ws keep S).1.T.lits.length
 |[],keep,S=>ap _
 |n::r,keep,S=>by
  simp only[bU];have h1:=FZ S n off;split
  ·exact aE h1 (lM off r _ _)
  ·exact h1
end Sv
theorem aH (w:World) (o:Obj):Fr [] w (w.alloc o):=(Fr.refl [] w).alloc o
theorem Ints.fD {w w':World} {A:Option Addr} {c:Nat} {xs:List Int} (h:Ints w A c xs) (hf:Fr [] w w'):Ints w' A c xs:=h.fr hf (fun k hk hm=>by cases hm)
def xB:Option Nat->Int
 |some n=>n
 |none=> -1
theorem aX.vo {w:World} {L:aO} {S:Sv} (h:aX w L S) (x:Nat):aX (w.setCell ⟨L.a,8,none⟩ (.int .i64 x)) L { S with head:=x }/\Fr (L.own w) w (w.setCell ⟨L.a,8,none⟩ (.int .i64 x)):=by have hf:Fr [L.a] w (w.setCell ⟨L.a,8,none⟩ (.int .i64 x)):=(Fr.refl _ w).setCell (.inl (by simp)) _;obtain⟨h1,_,h3⟩:=h.top (L':=L) (S':={ S with head:=x }) hf (by have :=h.obj.eu 8 (.int .i64 x);simpa[pM]using this) ⟨rfl,rfl,rfl,rfl,rfl,rfl,rfl,rfl,rfl,rfl,rfl,rfl,rfl,rfl,rfl,rfl,rfl⟩ ⟨rfl,rfl,rfl,rfl,rfl,rfl,rfl⟩;exact⟨h1,h3⟩
theorem JQ {keep l0:List Nat} {i:Nat} (h:keep.length<=i) (hi:i<l0.length):(keep++l0.drop keep.length)[i]! =l0[i]! :=by simp only[ae];rw[eO h,List.getElem?_drop,Nat.add_sub_cancel' h]
theorem pN {keep l0:List Nat} (h:keep.length<=l0.length):(keep++l0.drop keep.length).length=l0.length:=by simp;omega
theorem JP {keep l0:List Nat} (n:Nat) (h:keep.length<l0.length):(bO (keep++l0.drop keep.length)).take keep.length++[(n:Int)]++(bO (keep++l0.drop keep.length)).drop (keep.length+1)=bO ((keep++[n])++l0.drop (keep++[n]).length):=by
 simp only[bO,bH,List.map_drop,aj,bN,cj,dv];congr 1
 ·congr 1;rw[mY (by simp)];exact dC (by simp)
 ·rw[List.drop_append,List.drop_of_length_le (by simp),List.nil_append,List.drop_drop,aq];congr 1;omega
theorem vq {keep l0:List Nat}:(bO (keep++l0.drop keep.length)).take keep.length=bO keep:=by simp only[bO,bH];rw[mY (by simp)];exact dC (by simp)
theorem OZ (S:Sv) (n:Nat) (off:Int):(S.dg n off).2.1=false->(S.dg n off).2.2=true:=by
 unfold Sv.dg Sv.fZ;split
 ·simp
 ·simp only;split
  ·simp
  ·split
   ·simp
   ·split<;>simp
theorem nR {S:Sv} {f:Nat} (h:¬S.head<S.T.lits.length):Sv.di f S=(S,none):=by
 cases f with
 |zero=>rfl
 |succ f=>simp only[Sv.di];rw[aac h]
set_option maxRecDepth 100000 in
set_option maxHeartbeats 8000000 in
theorem B6 (w:World) (L:aO) (S:Sv) (h:aX w L S) (ok:S.Ok 0):
  Calls Tryz.prog 137 #[.pointer (some ⟨L.a,0,none⟩)] w (pz (.int .i64 (xB S.follow.2)) S.follow.1 L w):=by
 obtain⟨cT,de⟩:∃cT,S.follow=cT:=⟨_,rfl⟩
 have dM:Hid (Sv.di (S.vars+1) S=cT):=de;rw[de];have na:Hid (∀(S':Sv) (r:Option Nat),cT=(S',r)->∀W L',aX W L' S'->L.ext L' w->Fr (L.own w) w W->pz (.int .i64 (xB cT.2)) cT.1 L w (.returned (.int .i64 (xB r))) W):=fun S' r e W L' g1 g2 g3=>by subst e;exact⟨rfl,L',g1,g2,g3⟩
 have HH:=aa h;have lz:=aa ok;have X7:Hid (w.heap.size=w.heap.size):=rfl;clear de h ok;go_enter Tryz.func137,Tryz.ntmps137;go_wp2_with fail;go_loopg [2] (S.vars+1) (fun g x2 wr=>∃(S1:Sv) (L1:aO),Hid (Sv.di g S1=cT)/\S1.vars+1<=g+S1.head/\Hid (S1.Ok 0)/\Hid (aX wr L1 S1)/\Hid (L.ext L1 w)/\Hid (Fr (L.own w) w wr));case atStart=>exact⟨S,L,dM.out,by omega,lz.out,HH.out,aO.cv _ _,Fr.refl _ _⟩
 case round=>
  obtain⟨S1,L1,tf,hfu,kt,H1,fa,dI⟩:=hrel;have HFU:=aa hfu;have lx:=kt.out.vl;have Ow:=kt.out.hd;have mj:S1.T.lits.length<=S1.vars:=by obtain⟨R,hR⟩:=kt.out.tr;have :=hR.ic;rw[hR.lits,aq];exact this
  have mB:L1.a=L.a:=fa.out.1;obtain⟨c0,-,-,-,c4,-,-,-,c8,-⟩:=H1.out.cells;rw[mB]at c0 c4 c8;have vS:=aa c0;have N5:=aa c4;have HC8:=aa c8;have HEA:=aa mB;have e0:=Ext.cell c0;have e8:=Ext.cell c8;have KL:=aa (fun u:Ext wr=>kQ u.v L1.tL S1.T (H1.out.tr.fr u.fr (by simp)));clear mB hfu c4;by_cases bw:S1.head<S1.T.lits.length
  ·obtain⟨f,cX⟩:∃f,gk=f+1:=⟨gk-1,by have :=HFU.out;omega⟩
   have hd:decide ((S1.head:Int)<(S1.T.lits.length:Int))=true:=aai (by omega);go_wp2_with fail;refine au (by kernel_rfl) (by kernel_rfl) ?_;repeat (go_big_quiet_step (exact bh (KL.out _)))
   refine aak ?_;rintro w2 ⟨u2,b8⟩;have bj:Hid (Fr [] wr w2):=b8▸u2.fr;clear b8 u2;clear e0 e8 c0 c8 KL hd;obtain⟨x,hx⟩:∃x,S1.T.lits[S1.head]! =x:=⟨_,rfl⟩
   have tT:S1.T.atB (S1.head:Int)=x:=by unfold Tr.atB;rw[aae (by omega),Int.toNat_natCast];exact hx
   have kR: -(S1.vars:Int)<=x/\x<=S1.vars/\x≠0:=by
    obtain⟨R,hR⟩:=kt.out.tr;have hm:x∈S1.T.lits:=by rw[<-hx];exact get_mem bw
    rw[hR.lits,aG]at hm;obtain⟨e,he,rfl⟩:=hm;have hb:=hR.bound e he;unfold tv at hb;split at hb
    ·omega
    ·split at hb<;>omega
   have HX:=aa hx;have KA:=aa (fun u:Ext w2=>kU u.v L1.tL S1.T (H1.out.tr.fr (bj.out.ag u.fr) (by simp)) (S1.head:Int));rw[tT]at KA;have c0:=bj.out.aN vS.out;have c8:=bj.out.aN HC8.out;have e0:=Ext.cell c0;have e8:=Ext.cell c8;have dP:IntKind.i64.wrap (-x)= -x:=IntWalk.i64_in _ (by omega);clear tT hx;go_wp2_with fail;refine au (by kernel_rfl) (by kernel_rfl) ?_;repeat (go_big_quiet_step (exact bh (KA.out _)))
   refine aak ?_;rintro w3 ⟨u2,b8⟩;have uI:Hid (Fr [] w2 w3):=b8▸u2.fr;clear b8 u2;obtain⟨off,uW⟩:∃off,-x=off:=⟨_,rfl⟩
   have hor: -(S1.vars:Int)<=off/\off<=S1.vars:=by omega
   have Si:=aa uW;rw[uW];clear e0 e8 c0 c8 KA dP uW kR;obtain⟨cy,Nc⟩:∃cy,aS off=cy:=⟨_,rfl⟩
   have KC:=aa (fun W=>nT W off (by omega) (by omega));simp only[Nc]at KC;have od:cy<L1.ws.length:=by rw[H1.out.sf,kt.out.wl,<-Nc];exact gX hor.1 hor.2
   have TD:=aa Nc;have db:=aa (bj.out.ag uI.out);clear bj uI Nc;obtain⟨gw,uZ,sw,fw⟩:=H1.out.Yr od;have Oh:=H1.out.tk od;have FP:=aa (fun W hW=>(H1.out.keep (w':=W) hW).take od);obtain⟨⟨A0,c0,l0⟩,D8⟩:∃x,L1.ws[cy]! =x:=⟨_,rfl⟩
   rw[D8]at sw Oh FP;simp only at sw Oh FP;have X3:=aa Oh;have tZ:=aa sw;have oo:=aa fw;have c4:=db.out.aN N5.out;rw[uZ]at c4;have s4:=db.out.aN sw;have e4:=Ext.cell c4;have es:=Ext.cell s4;have AJ:=aa od;have HGW:=aa uZ;clear D8 Oh sw fw uZ;go_wp2_with fail;refine au (by kernel_rfl) (by kernel_rfl) ?_;repeat (go_big_quiet_step (exact bh (KC.out _)))
   refine aak ?_;rintro w4 ⟨u2,b8⟩;have cG:Hid (Fr [] w3 w4):=b8▸u2.fr;clear b8 u2;clear c4 s4 e4 es;have gY:=aa (db.out.ag cG.out);have hc4:=N5.out;rw[HGW.out]at hc4;have agM:=aa (gY.out.aN hc4);clear db cG hc4;go_upto_region 5 with fail;refine aam ?_;refine bi (fun w':World=>Fr [] w4 w') 7 (by kernel_rfl) ((Fr.refl [] w4).drew) (fun cZ=> ?_);apply TB 5 [(0,[]),(1,[]),(2,[]),(3,[3,7]),(4,[])];kernel_rfl;rfl;· (repeat (apply eH;rfl;rfl;(· intro w bl;(try(have bl:=bl.resolve_left (aF _ _);(have s4:=bl.aN agM.out)));go_simp<;>with_reducible rfl);try simp only[Act.put,q5,q6,q7]));exact eG
   exact cZ;intro cZ;refine R2 5 (by kernel_rfl) (by rfl) cZ fun K hK aw=> ?_
   (go_simp;refine(KC.out _).mono ?_;rintro e w5 ⟨rfl,rfl⟩;dsimp only)
   refine hK.out _ _ (.inr ?_) (fun u6=> ?_)
   ·exact aw
   clear hK K;try simp only[Act.put,q5,q6,q7]
   apply TB 1 [(6,[])];kernel_rfl;rfl;· (repeat (apply eH;rfl;rfl;(· intro w bl;go_simp<;>with_reducible rfl);try simp only[Act.put,q5,q6,q7]));exact eG
   exact u6;intro u6;refine R2 7 (by kernel_rfl) (by rfl) u6 fun K hK aw=> ?_
   (have sb:=(gY.out.ag aw).aN tZ.out;have fb:World.frozen? _ _=_:=(World.frozen?_of_block ((gY.out.ag aw).block gw (bM tZ.out) (by simp))).trans oo.out;go_simp)
   refine hK.out _ _ (.inl rfl) (fun Km=> ?_);clear hK K;try simp only[Act.put,q5,q6,q7]
   refine aD (by kernel_rfl) ?_ _;refine NoPanic.normal ?_;have ht:=FP.out w4 gY.out;obtain⟨IA,fE,_,_,L5,h5',vE,aez,QK,hn5⟩:=ht;obtain rfl :gw=IA:=by rw[HGW.out]at fE;simpa using fE
   obtain⟨W5,VS⟩:∃W,(w4.setCell ⟨gw,cy,none⟩ (.slice none 0 0)).drew=W:=⟨_,rfl⟩
   have h5:aX W5 L5 (S1.cm cy []):=VS▸h5'.keep (Fr.refl [] _).drew;have ev:Fr (L1.own w4) w4 W5:=VS▸aez.drew;have ze:Ints W5 A0 c0 (bO l0):=VS▸QK.drew;rw[VS];clear h5' aez QK;have nN:wr.heap.size<=w4.heap.size:=gY.out.size;have hE5:L.ext L5 w:=aO.aV fa.out (⟨vE.1,vE.2.1,fun k hk e=>vE.2.2 k (aK hk nN) e⟩:L1.ext L5 wr) dI.out.size;have hF5:Fr (L.own w) w W5:=aO.aQ fa.out dI.out ((gY.out.mono (fun k hk=>by cases hk)).trans ev (fun k hk=>by
    rw[aO.bT]at hk;rcases bv k wr.heap.size with hl |hl
    ·exact .inl (aO.bT.2 ⟨hl,hk.2⟩)
    ·exact .inr hl))
   have Xy:∀k,k∈ak A0->(L5.cY k).1≠L5.id:=fun k hk=>(hn5 k hk).1;have hg0:∀k,k∈ak A0->k∈L.own w\/w.heap.size<=k:=fun k hk=>by
    have e1:=(hn5 k hk).2;rw[aO.bT]at e1;rcases bv k w.heap.size with hl |hl
    ·exact .inl (aO.bT.2 ⟨hl,fa.out.2.2 k hl (e1.2.trans fa.out.2.1)⟩)
    ·exact .inr hl
   have FV:=aa hg0;have vO:Hid (Sv.di f { (Sv.bU off l0 [] (S1.cm cy [])).1 with head:=S1.head+1 }=cT/\(Sv.bU off l0 [] (S1.cm cy [])).2=none\/∃n,(Sv.bU off l0 [] (S1.cm cy [])).2=some n/\cT=((Sv.bU off l0 [] (S1.cm cy [])).1,some n)):=by
    have h1:=tf.out;rw[cX]at h1;simp only[Sv.di]at h1;rw[aae bw,HX.out,Si.out,TD.out,X3.out]at h1;have hvh:(Sv.bU off l0 [] (S1.cm cy [])).1.head=S1.head:=by have o2:(S1.cm cy []).Ok (0+l0.length):=kt.out.cm (by rw[<-H1.out.sf];exact AJ.out) (fun n hn=>by cases hn) (by rw[X3.out];simp);exact(o2.oU off l0 [] _ (fun n hn=>kt.out.wb cy n (by have :=X3.out;unfold Sv.fY at this;rw[this];exact hn)) (fun n hn=>by cases hn) (by show aS off<(S1.watch.set _ _).length;rw[ao,<-H1.out.sf,TD.out];exact AJ.out)).2.2.1
    cases hv:(Sv.bU off l0 [] (S1.cm cy [])).2 with
    |none=>
     rw[hv]at h1;simp only[hvh]at h1;exact .inl ⟨h1,rfl⟩
    |some n=>
     rw[hv]at h1;exact .inr ⟨n,rfl,h1.symm⟩
   have o2:(S1.cm cy []).Ok l0.length:=kt.out.cm (by rw[<-H1.out.sf];exact AJ.out) (fun n hn=>by cases hn) (by rw[X3.out];simp);have ZS:∀n∈l0,n<S1.list.length:=fun n hn=>kt.out.wb cy n (by have :=X3.out;unfold Sv.fY at this;rw[this];exact hn);have agh:=aa ZS;have H1L:=aa (H1.out.sf.trans kt.out.wl);have adD:=(o2.less (m':=([]:List Nat).length+l0.length) (by simp)).oU off l0 [] _ ZS (fun n hn=>by cases hn) (by show aS off<(S1.watch.set _ _).length;rw[ao,<-H1.out.sf,TD.out];exact AJ.out);have Jd:=aa adD;obtain⟨VR,hVR⟩:∃VR,Sv.bU off l0 [] (S1.cm cy [])=VR:=⟨_,rfl⟩
   rw[hVR]at vO Jd;have Wk:=aa hVR;have qh:=kt.out.ll;have H5:=aa h5;have oQ:=aa hE5;have kO:=aa hF5;have HI5:=aa ze;have Sl:=aa Xy;have OO:=aa o2;have afP:Hid ((S1.cm cy []).watch.length=2*S1.vars+2):=(by show(S1.watch.set _ _).length=_;rw[ao];exact kt.out.wl:(S1.cm cy []).watch.length=2*S1.vars+2)
   have asq:l0.length<=4398046511104:=by have :=kt.out.room cy;have h2:=X3.out;unfold Sv.fY at h2;rw[h2]at this;exact this
   have asU:l0.length<=c0:=by
    have h2:=ze.form;have e:=bf l0;rcases h2 with⟨_,_,h3⟩ |⟨_,_,_,h3,_⟩
    ·rw[h3]at e;simp at e;omega
    ·omega
   clear h5 vE ev ze hn5 hE5 hF5 Xy hg0 o2 ZS adD hVR VS nN FP aw fE tZ oo HGW agM gY H1 vS N5 HC8;try clear Km
   try clear vF
   try clear u6
   have aeu:=HI5.out.form;rcases aeu with⟨rfl,rfl,tc⟩ |⟨g0,rfl,asJ,-,-⟩
   ·have aeg:l0=[]:=by have :=bf l0;rw[tc]at this;exact aP this.symm
    subst aeg;clear tc;go_wp2_with fail;go_loopg [5,56] ([]:List Nat).length (fun g2 x5 x56 wi=>∃(i:Nat) (keep:List Nat) (S2:Sv) (L2:aO),i+g2=([]:List Nat).length/\keep.length<=i/\x5= .slice none keep.length 0/\x56= .int .i64 i/\Hid (Sv.bU off (([]:List Nat).drop i) keep S2=VR)/\Hid (S2.Ok (keep.length+(([]:List Nat).length-i)))/\Hid (∀n∈keep,n<S1.list.length)/\Hid (S2.list.length=S1.list.length/\S2.vars=S1.vars/\S2.watch.length=2*S1.vars+2)/\Hid (aX wi L2 S2)/\Hid (L.ext L2 w)/\Hid (Fr (L.own w) w wi)/\Hid (Ints wi none 0 (bO (keep++([]:List Nat).drop keep.length)))/\Hid (∀k,k∈ak none->(L2.cY k).1≠L2.id));case atStart=>exact⟨0,[],S1.cm cy [],L5,by omega,ap _,rfl,rfl,Wk.out,OO.out.less (by simp),(fun n hn=>by cases hn),⟨rfl,rfl,afP.out⟩,H5.out,oQ.out,kO.out,HI5.out,Sl.out⟩
    case round=>
     obtain⟨i,keep,S2,L2,hi,Ov,rfl,rfl,HVS,vk,FS,qP,H2,dn,cw,nZ,jw⟩:=hrel;have HI:=aa hi;have m7:i<=([]:List Nat).length:=(by omega)
     clear hi;by_cases ml:i<([]:List Nat).length
     ·simp at ml
     ·obtain rfl :i=([]:List Nat).length:=by omega
      clear HI;have pw:cy<L2.ws.length:=by rw[H2.out.sf,qP.out.2.2];have :=AJ.out;rw[H1L.out]at this;exact this
      obtain⟨gw,uZ,sw,fw⟩:=H2.out.Yr pw;obtain⟨-,-,-,-,c4,-⟩:=H2.out.cells;rw[uZ,dn.out.1]at c4;have Fs:Hid (L.a∉ak none):=fun hm=>jw.out _ hm (H2.out.jN (.inl (by rw[dn.out.1])));have qp:Hid (gw∉ak none):=fun hm=>jw.out _ hm (H2.out.jN (.inr (.inr (.inr (.inr (.inl (by rw[uZ];simp[ak])))))));have Fz:=aa c4;have mU:=aa sw;have N2:=aa fw;have N1:=aa uZ;have jL:=HVS.out;rw[List.drop_length]at jL;simp only[Sv.bU]at jL;rw[TD.out]at jL;have uU:=H2.out.tk pw;have CO:=H2.out.sD cy pw;have Ou:=vk.out.room cy;have Qw:∀k,k∈ak (L2.ws[cy]!).A->k∉ak none:=fun k hk hm=>jw.out k hm (H2.out.jN (.inr (.inr (.inr (.inr (.inr (.inr (.inr (.inr (.inr ⟨cy,pw,hk⟩))))))))));unfold Sv.fY at uU jL;rw[uU]at Ou jL;obtain⟨⟨A9,c9,l9⟩,GS⟩:∃x,L2.ws[cy]! =x:=⟨_,rfl⟩
      rw[GS]at sw CO Ou jL Qw;rw[GS]at mU;simp only at sw CO Ou jL mU Qw;have CX:=aa CO;have Tw:=aa jL;have Ev:Ints wr none 0 (bO keep):=by have :=nZ.out.qw keep.length;rw[vq]at this;exact this
      have HKP:=aa Ev;have QS:cy<L2.ws.length:=pw;have N3:=aa QS;have OL:Hid (Sv.di f { VR.1 with head:=S1.head+1 }=cT):=by
       rcases vO.out with h1 |⟨n,h1,_⟩
       ·exact h1.1
       ·rw[<-Tw.out]at h1;simp at h1
      have akM:keep.length<=4398046511104:=(by omega)
      clear GS uU CO jL Ev sw fw uZ c4 pw;go_upto_region 17 with fail;refine aam ?_;refine bi (fun w':World=>Fr (ak none) wr w') 17 (by kernel_rfl) ((Fr.refl _ wr).drew) (fun cZ=> ?_);apply TB 11 [(0,[]),(1,[]),(2,[]),(3,[3,17]),(4,[]),(6,[]),(7,[]),(8,[]),(9,[]),(10,[10,17]),(11,[])];kernel_rfl;rfl;· (repeat (apply eH;rfl;rfl;(· intro w bl;(try(have bl:=bl.resolve_left (aF _ _);(have s4:=bl.bK Fs.out Fz.out;have s5:=bl.bK qp.out mU.out)));go_simp<;>with_reducible rfl);try simp only[Act.put,q5,q6,q7]));exact eG
      exact cZ;intro cZ;refine R2 5 (by kernel_rfl) (by rfl) cZ fun K hK aw=> ?_
      (go_simp;refine(KC.out _).mono ?_;rintro e w5 ⟨rfl,rfl⟩;dsimp only)
      refine hK.out _ _ (.inr ?_) (fun jh=> ?_)
      ·first |exact aw.ag gy |exact aw
      clear hK K;try simp only[Act.put,q5,q6,q7]
      refine R2 12 (by kernel_rfl) (by rfl) jh fun K hK aw=> ?_
      (go_simp;refine(KC.out _).mono ?_;rintro e w5 ⟨rfl,rfl⟩;dsimp only)
      refine hK.out _ _ (.inr ?_) (fun kH=> ?_)
      ·first |exact aw.ag gy |exact aw
      clear hK K;try simp only[Act.put,q5,q6,q7]
      apply TB 2 [(13,[]),(14,[14,17])];kernel_rfl;rfl;· (repeat (apply eH;rfl;rfl;(· intro w bl;(try(have bl:=bl.resolve_left (aF _ _);(have s4:=bl.bK Fs.out Fz.out;have s5:=bl.bK qp.out mU.out)));go_simp<;>with_reducible rfl);try simp only[Act.put,q5,q6,q7]));exact eG
      exact kH;intro kH;refine R2 15 (by kernel_rfl) (by rfl) kH fun K hK aw=> ?_
      (refine mH rfl _ _ rfl none 0 (bO keep) _ rfl (bf keep).symm ?En A9 _ c9 (bO l9) (bf l9) rfl ?Hr (by rw[bf,bf];omega) ?_;(case En=>first |exact HKP.out.drew |exact HKP.out);(case Hr=>first |exact CX.out.drew |exact CX.out);intro A' cap w7 BT gy XH sY)
      refine hK.out _ _ (.inr ?_) (fun mQ=> ?_)
      ·first |exact aw.ag gy |exact aw
      clear hK K;try simp only[Act.put,q5,q6,q7]
      apply TB 1 [(16,[])];kernel_rfl;rfl;· (repeat (apply eH;rfl;rfl;(· intro w bl;go_simp<;>with_reducible rfl);try simp only[Act.put,q5,q6,q7]));exact eG
      exact mQ;intro mQ;refine R2 17 (by kernel_rfl) (by rfl) mQ fun K hK aw=> ?_
      (have sb:=aw.bK qp.out mU.out;have fb:World.frozen? _ _=_:=(World.frozen?_of_block (aw.block gw (bM mU.out) qp.out)).trans N2.out;go_simp)
      refine hK.out _ _ (.inl rfl) (fun kh=> ?_);clear hK K;try simp only[Act.put,q5,q6,q7]
      refine aD (by kernel_rfl) ?_ _;refine NoPanic.normal ?_;have Kh:Ints w7 A' cap (bO (keep++l9)):=by have :=BT;unfold bO at this⊢;rw[bH];exact this
      obtain⟨IA,fE,_,L8,h8,FM,BS,Uy,mp⟩:=H2.out.VX (c:=cy) N3.out (A0:=none) jw.out Kh aw (fun k hk=>(XH k hk).imp id (fun e=>by rw[e];exact ap _));obtain rfl :gw=IA:=by rw[N1.out]at fE;simpa using fE
      simp only[aj]at h8 mp;obtain⟨W8,hW8⟩:∃W,w7.setCell ⟨gw,cy,none⟩ (.slice A' (keep.length+l9.length) cap)=W:=⟨_,rfl⟩
      rw[hW8]at h8 mp⊢;have Nj:L.ext L8 w:=by
       refine⟨FM.trans dn.out.1,BS.trans dn.out.2.1,fun k hk e=> ?_⟩;rcases Uy k (aK hk cw.out.size) (e.trans dn.out.2.1.symm)with h1 |h1
       ·exact dn.out.2.2 k hk (h1.trans dn.out.2.1)
       ·rcases FV.out k h1 with h2 |h2
        ·exact(aO.bT.1 h2).2
        ·omega
      have Q5:Fr (L.own w) w W8:=cw.out.trans mp (fun k hk=>by
       rcases ah.1 hk with h1 |h1
       ·exact FV.out k h1
       ·rw[aO.bT]at h1;rcases bv k w.heap.size with hl |hl
        ·exact .inl (aO.bT.2 ⟨hl,dn.out.2.2 k hl (h1.2.trans dn.out.2.1)⟩)
        ·exact .inr hl)
      have xv:S2.cm cy (keep++l9)=VR.1:=(by rw[<-Tw.out])
      rw[xv]at h8;have hhv:=Jd.out.2.2.1;have hh9:VR.1.head=S1.head:=hhv;have Oi:VR.1.vars=S1.vars:=Jd.out.2.1;have ZK:S1.T.lits.length<=VR.1.T.lits.length:=by have :=Sv.lM off [] [] (S1.cm cy []);rw[Wk.out]at this;exact this
      have c8:=h8.cells.2.2.2.2.2.2.2.2.1;have f8:=h8.obj.frozen 8;rw[hh9]at c8;rw[FM.trans dn.out.1]at c8 f8;obtain⟨h9,qH⟩:=h8.vo (S1.head+1);rw[FM.trans dn.out.1]at h9 qH;have H9:=aa h9;have yO:=aa (aO.aQ Nj Q5 qH);have HE9:=aa Nj;have HO9:Hid (({ VR.1 with head:=S1.head+1 }:Sv).Ok 0):=(by have o:=Jd.out.1;exact⟨o.vl,o.tr,o.hi,o.hl,o.ph,o.wl,o.ll,o.wb,o.wt,o.lr,o.ln,o.lb,by show S1.head+1<=VR.1.T.lits.length;omega,o.rs⟩:({ VR.1 with head:=S1.head+1 }:Sv).Ok 0)
      have aaX:=aa Oi;have hhb:S1.head<=262143:=(by omega)
      clear hW8 h8 mp Nj Q5 xv hhv hh9 Oi ZK h9 qH BT gy XH sY Kh Uy FM BS aw;go_wp2_with fail;go_roundg f;case measure=>omega
      case rel=>exact⟨{ VR.1 with head:=S1.head+1 },L8,OL.out,(by show VR.1.vars+1<=f+(S1.head+1);have :=HFU.out;have :=aaX.out;omega),HO9.out,H9.out,HE9.out,yO.out⟩
   ·go_wp2_with fail;go_loopg [5,56] l0.length (fun g2 x5 x56 wi=>∃(i:Nat) (keep:List Nat) (S2:Sv) (L2:aO),i+g2=l0.length/\keep.length<=i/\x5= .slice (some ⟨g0,0,none⟩) keep.length c0/\x56= .int .i64 i/\Hid (Sv.bU off (l0.drop i) keep S2=VR)/\Hid (S2.Ok (keep.length+(l0.length-i)))/\Hid (∀n∈keep,n<S1.list.length)/\Hid (S2.list.length=S1.list.length/\S2.vars=S1.vars/\S2.watch.length=2*S1.vars+2)/\Hid (aX wi L2 S2)/\Hid (L.ext L2 w)/\Hid (Fr (L.own w) w wi)/\Hid (Ints wi (some ⟨g0,0,none⟩) c0 (bO (keep++l0.drop keep.length)))/\Hid (∀k,k∈ak (some ⟨g0,0,none⟩)->(L2.cY k).1≠L2.id));case atStart=>exact⟨0,[],S1.cm cy [],L5,by omega,ap _,rfl,rfl,Wk.out,OO.out.less (by simp),(fun n hn=>by cases hn),⟨rfl,rfl,afP.out⟩,H5.out,oQ.out,kO.out,HI5.out,Sl.out⟩
    case round=>
     obtain⟨i,keep,S2,L2,hi,Ov,rfl,rfl,HVS,vk,FS,qP,H2,dn,cw,nZ,jw⟩:=hrel;have HI:=aa hi;have m7:i<=l0.length:=(by omega)
     clear hi;by_cases ml:i<l0.length
     ·have cn:=(nZ.out:Ints _ (some ⟨g0,0,none⟩) c0 _).cell (i:=i) (by rw[bf,pN (by omega)];exact ml);rw[pZ,JQ Ov ml]at cn;obtain⟨n,hn⟩:∃n,l0[i]! =n:=⟨_,rfl⟩
      rw[hn]at cn;have Qz:n∈l0:=by rw[<-hn];simp only[ae,af ml,ay];exact j5 ml
      have ov:n<S2.list.length:=by rw[qP.out.1];exact agh.out n Qz
      have Xx:n<2199023255552:=by have :=kt.out.ll;have :=qP.out.1;omega
      have u0:l0.drop i=n::l0.drop (i+1):=by rw[List.drop_eq_getElem_cons ml,<-hn];simp only[ae,af ml,ay]
      have Zy:=vk.out.less (m':=(keep.length+(l0.length-(i+1)))+1) (by omega);have HVC:=C4 _ L2 S2 H2.out _ Zy n ov off;have hvo:=Zy.visit ov off;have hff:=OZ S2 n off;have jL:=HVS.out;rw[u0]at jL;simp only[Sv.bU]at jL;rw[dn.out.1]at HVC;obtain⟨⟨q1,st,T9⟩,hq⟩:∃q,S2.dg n off=q:=⟨_,rfl⟩
      rw[hq]at HVC hvo hff jL;simp only at HVC hvo hff jL;have HVC:=aa HVC;have HVO:=aa hvo;have anw:=aa hff;have aa0:=aa jL;have Fq:=aa (agh.out n Qz);clear hq hvo hff jL u0 Qz hn ov Zy;go_wp2_with fail;clear cn;refine HVC.out.mono ?_;clear HVC;rintro e w6 ⟨rfl,L3,h3,yF,dh⟩;have iU:=aa (aO.aV dn.out (by exact yF) cw.out.size);have SH:=aa (aO.aQ dn.out cw.out dh);have fE:∀V:World,g0∉L2.own V:=fun V hm=>jw.out g0 (by simp[ak]) (aO.bT.1 hm).2;have WF:=aa (nZ.out.fr dh (fun k hk=>by simp[ak]at hk;subst hk;exact fE _));have om:Hid (∀k,k∈ak (some (⟨g0,0,none⟩:Addr))->(L3.cY k).1≠L3.id):=fun k hk e=>by have hl:k<_:=nZ.out.lt k hk;exact jw.out k hk (yF.2.2 k hl (e.trans yF.2.1))
      have H3:=aa h3;clear h3 yF dh fE dn cw H2 nZ jw;cases st with
      |true=>
       cases T9 with
       |true=>
        have oJ:keep.length<l0.length:=(by omega)
        have HB:Hid (Fr [] w6 (w6.alloc (.cells #[.int .i64 n] 3))):=aH _ _;have SP:Hid ((w6.alloc (.cells #[.int .i64 n] 3)).cell? ⟨w6.heap.size,0,none⟩=some (.int .i64 n)):=(At.new w6 _ _).cell 0;go_wp2_with (at_builtin;(refine lK _ rfl _ _ rfl g0 c0 keep.length (bO (keep++l0.drop keep.length)) rfl (WF.out.fD HB.out) ⟨w6.heap.size,0,none⟩ 1 n rfl SP.out (by rw[bf,pN (by omega)];exact oJ) ?_;intro w7 BT gy))
        rw[JP n oJ]at BT;have N0:=aa BT;have hF7:Fr [g0] w6 w7:=(HB.out.mono (fun k hk=>by cases hk)).ag gy;have H7:=aa (H3.out.fr hF7 (fun k hk _=>by simp at hk;subst hk;exact om.out k (by simp[ak])));have rL:=aa (SH.out.trans hF7 (fun k hk=>by simp at hk;subst hk;exact FV.out k (by simp[ak])));have NT:=aa HVO.out;have jL:=aa0.out;simp only[if_true]at jL;have aaZ:=aa jL;have agk:Hid (∀j∈keep++[n],j<S1.list.length):=fun j hj=>by
         rcases ah.1 hj with h |h
         ·exact FS.out j h
         ·simp at h;rw[h];exact Fq.out
        clear BT gy hF7 jL HB SP WF H3 SH;have jL:=aaZ.out;try simp only[if_true]at jL
        have aaY:=aa jL;clear jL;go_roundg (gk-1);case measure=>have :=HI.out;omega
        case rel=>exact⟨i+1,keep++[n],q1,L3,by have :=HI.out;omega,by simp;omega,by simp,by go_num,aaY.out,NT.out.1.less (by simp;omega),agk.out,⟨by rw[NT.out.2.2.1];exact qP.out.1,by rw[NT.out.2.1];exact qP.out.2.1,by rw[NT.out.2.2.2.2];exact qP.out.2.2⟩,H7.out,iU.out,rL.out,N0.out,om.out⟩
       |false=>
        have oJ:keep.length<l0.length:=(by omega)
        have HB:Hid (Fr [] w6 (w6.alloc (.cells #[.int .i64 n] 3))):=aH _ _;have SP:Hid ((w6.alloc (.cells #[.int .i64 n] 3)).cell? ⟨w6.heap.size,0,none⟩=some (.int .i64 n)):=(At.new w6 _ _).cell 0;go_wp2_with (at_builtin;(refine lK _ rfl _ _ rfl g0 c0 keep.length (bO (keep++l0.drop keep.length)) rfl (WF.out.fD HB.out) ⟨w6.heap.size,0,none⟩ 1 n rfl SP.out (by rw[bf,pN (by omega)];exact oJ) ?_;intro w7 BT gy))
        rw[JP n oJ]at BT;have N0:=aa BT;have hF7:Fr [g0] w6 w7:=(HB.out.mono (fun k hk=>by cases hk)).ag gy;have H7:=aa (H3.out.fr hF7 (fun k hk _=>by simp at hk;subst hk;exact om.out k (by simp[ak])));have rL:=aa (SH.out.trans hF7 (fun k hk=>by simp at hk;subst hk;exact FV.out k (by simp[ak])));have NT:=aa HVO.out;have jL:=aa0.out;simp only[if_true]at jL;have aaZ:=aa jL;have agk:Hid (∀j∈keep++[n],j<S1.list.length):=fun j hj=>by
         rcases ah.1 hj with h |h
         ·exact FS.out j h
         ·simp at h;rw[h];exact Fq.out
        clear BT gy hF7 jL HB SP WF H3 SH;have pw:cy<L3.ws.length:=by rw[H7.out.sf,NT.out.2.2.2.2,qP.out.2.2];have :=AJ.out;rw[H1L.out]at this;exact this
        obtain⟨gw,uZ,sw,fw⟩:=H7.out.Yr pw;obtain⟨-,-,-,-,c4,-⟩:=H7.out.cells;rw[uZ,iU.out.1]at c4;have Fs:Hid (L.a∉ak (some ⟨g0,0,none⟩)):=fun hm=>om.out _ hm (H7.out.jN (.inl (by rw[iU.out.1])));have qp:Hid (gw∉ak (some ⟨g0,0,none⟩)):=fun hm=>om.out _ hm (H7.out.jN (.inr (.inr (.inr (.inr (.inl (by rw[uZ];simp[ak])))))));have Fz:=aa c4;have mU:=aa sw;have N2:=aa fw;have N1:=aa uZ;have jL:=aaZ.out;try simp only[dD,if_false]at jL
        rw[TD.out]at jL;have Tw:=aa jL;have QS:cy<L3.ws.length:=pw;have N3:=aa QS;have OL:Hid (cT=(VR.1,some n)):=by
         rcases vO.out with h1 |⟨n',h1,h2⟩
         ·rw[<-Tw.out]at h1;simp at h1
         ·have e:n'=n:=by rw[<-Tw.out]at h1;simpa using h1.symm
          rw[h2,e];rfl
        have asw:keep.length+1<=i+1:=(by omega)
        have HIN:Hid (∀k:Nat,k<(bO (l0.drop (i+1))).length->w7.cell? ⟨g0,i+1+k,none⟩=some (.int .i64 (bO (l0.drop (i+1)))[k]!)):=fun k hk=>by rw[bf,List.length_drop]at hk;have h1:=N0.out.cell (i:=i+1+k) (by rw[bf,pN (by simp;omega)];omega);rw[h1,pZ,pZ,JQ (by simp;omega) (by omega),xK]
        have aef:(bO (l0.drop (i+1))).length=l0.length-(i+1):=(by rw[bf,List.length_drop])
        have ana:=aa aef;have asE:IntKind.i64.wrap ((i:Int)+1)=(i:Int)+1:=IntWalk.i64_in _ (by omega);have qk:(i:Int)+1<=l0.length:=(by omega)
        have FL:(0:Int)<=(i:Int)+1:=(by omega)
        have iK:i+1<=l0.length:=(by omega)
        have Ng:i+1<=c0:=(by omega)
        clear jL sw fw uZ c4 pw aef;by_cases oy:c0=i+1
        ·subst oy;refine aam ?_;refine bi (fun w':World=>Fr [g0] w7 w') 13 (by kernel_rfl) ((Fr.refl _ w7).drew) (fun cZ=> ?_);apply TB 10 [(0,[]),(1,[]),(2,[]),(3,[3,13]),(4,[]),(6,[]),(7,[]),(8,[]),(9,[]),(10,[])];kernel_rfl;rfl;· (repeat (apply eH;rfl;rfl;(· intro w bl;(try(have bl:=bl.resolve_left (aF _ _);(have s4:=bl.bK Fs.out Fz.out;have s5:=bl.bK qp.out mU.out)));go_simp<;>with_reducible rfl);try simp only[Act.put,q5,q6,q7]));exact eG
         exact cZ;intro cZ;refine R2 5 (by kernel_rfl) (by rfl) cZ fun K hK aw=> ?_
         (go_simp;refine(KC.out _).mono ?_;rintro e w5 ⟨rfl,rfl⟩;dsimp only)
         refine hK.out _ _ (.inr ?_) (fun fo=> ?_)
         ·first |exact aw.ag mp |exact aw
         clear hK K;try simp only[Act.put,q5,q6,q7]
         refine R2 11 (by kernel_rfl) (by rfl) fo fun K hK aw=> ?_
         (refine oY rfl _ _ rfl g0 (i+1) (keep.length+1) (bO ((keep++[n])++l0.drop (keep++[n]).length)) rfl ?Er ⟨g0,0,none⟩ 0 0 [] rfl rfl (fun k hk=>absurd hk (by simp)) (by rw[bf,pN (by simp;omega)];simp;omega) ?_;(case Er=>first |exact N0.out.drew |exact N0.out);intro w8 Kh mp)
         refine hK.out _ _ (.inr ?_) (fun jh=> ?_)
         ·first |exact aw.ag mp |exact aw
         clear hK K;try simp only[Act.put,q5,q6,q7]
         apply TB 1 [(12,[])];kernel_rfl;rfl;· (repeat (apply eH;rfl;rfl;(· intro w bl;go_simp<;>with_reducible rfl);try simp only[Act.put,q5,q6,q7]));exact eG
         exact jh;intro jh;refine R2 13 (by kernel_rfl) (by rfl) jh fun K hK aw=> ?_
         (have sb:=aw.bK qp.out mU.out;have fb:World.frozen? _ _=_:=(World.frozen?_of_block (aw.block gw (bM mU.out) qp.out)).trans N2.out;go_simp)
         refine hK.out _ _ (.inl rfl) (fun mq=> ?_);clear hK K;try simp only[Act.put,q5,q6,q7]
         refine aD (by kernel_rfl) ?_ _;refine NoPanic.normal ?_;have hcut:(bO ((keep++[n])++l0.drop (keep++[n]).length)).take (keep.length+1)=bO (keep++[n]):=by have :=vq (keep:=keep++[n]) (l0:=l0);rw[aj,bN]at this;rw[aj,bN];exact this
         have hdz:l0.drop (i+1)=[]:=List.drop_eq_nil_of_le (by omega);have hlz:l0.length-(i+1)=0:=(by omega)
         have hi9:Ints w8 (some ⟨g0,0,none⟩) (i+1) (bO ((keep++[n])++l0.drop (i+1))):=by have :=Kh.qw (keep.length+1);rw[hcut,bZ,mY (by rw[bf];simp),dC (by rw[bf];simp)]at this;rw[hdz,bZ];exact this
         obtain⟨IA,fE,_,L8,h8,FM,BS,Uy,qH⟩:=H7.out.VX (c:=cy) N3.out (A0:=some ⟨g0,0,none⟩) om.out hi9 aw (fun k hk=> .inl hk);obtain rfl :gw=IA:=by rw[N1.out]at fE;simpa using fE
         have QE:((keep++[n])++l0.drop (i+1)).length=keep.length+1+(l0.length-(i+1)):=by simp;omega
         rw[QE,hlz]at h8 qH;have Nj:L.ext L8 w:=by
          refine⟨FM.trans iU.out.1,BS.trans iU.out.2.1,fun k hk e=> ?_⟩;rcases Uy k (aK hk rL.out.size) (e.trans iU.out.2.1.symm)with h1 |h1
          ·exact iU.out.2.2 k hk (h1.trans iU.out.2.1)
          ·rcases FV.out k h1 with h2 |h2
           ·exact(aO.bT.1 h2).2
           ·omega
         have Q5:=rL.out.trans qH (fun k hk=>by
          rcases ah.1 hk with h1 |h1
          ·exact FV.out k h1
          ·rw[aO.bT]at h1;rcases bv k w.heap.size with hl |hl
           ·exact .inl (aO.bT.2 ⟨hl,iU.out.2.2 k hl (h1.2.trans iU.out.2.1)⟩)
           ·exact .inr hl)
         have xv:q1.cm cy ((keep++[n])++l0.drop (i+1))=VR.1:=(by rw[<-Tw.out])
         rw[xv]at h8;have FF:=aa (na.out VR.1 (some n) OL.out _ L8 h8 Nj Q5);clear Kh mp hi9 h8 Nj Q5 xv aw qH;go_wp2_with fail;go_ret;exact FF.out
        ·have apk:c0-(i+1)≠0:=(by omega)
         refine aam ?_;refine bi (fun w':World=>Fr [g0] w7 w') 13 (by kernel_rfl) ((Fr.refl _ w7).drew) (fun cZ=> ?_);apply TB 10 [(0,[]),(1,[]),(2,[]),(3,[3,13]),(4,[]),(6,[]),(7,[]),(8,[]),(9,[]),(10,[])];kernel_rfl;rfl;· (repeat (apply eH;rfl;rfl;(· intro w bl;(try(have bl:=bl.resolve_left (aF _ _);(have s4:=bl.bK Fs.out Fz.out;have s5:=bl.bK qp.out mU.out)));go_simp<;>with_reducible rfl);try simp only[Act.put,q5,q6,q7]));exact eG
         exact cZ;intro cZ;refine R2 5 (by kernel_rfl) (by rfl) cZ fun K hK aw=> ?_
         (go_simp;refine(KC.out _).mono ?_;rintro e w5 ⟨rfl,rfl⟩;dsimp only)
         refine hK.out _ _ (.inr ?_) (fun fo=> ?_)
         ·first |exact aw.ag mp |exact aw
         clear hK K;try simp only[Act.put,q5,q6,q7]
         refine R2 11 (by kernel_rfl) (by rfl) fo fun K hK aw=> ?_
         (refine oY rfl _ _ rfl g0 c0 (keep.length+1) (bO ((keep++[n])++l0.drop (keep++[n]).length)) rfl ?Ep ⟨g0,i+1,none⟩ (l0.length-(i+1)) (c0-(i+1)) (bO (l0.drop (i+1))) ana.out rfl ?Ht (by rw[bf,bf,pN (by simp;omega),List.length_drop];omega) ?_;(case Ep=>first |exact N0.out.drew |exact N0.out);(case Ht=>exact(fun k hk=>by rw[dH];exact HIN.out k hk));intro w8 Kh mp)
         refine hK.out _ _ (.inr ?_) (fun jh=> ?_)
         ·first |exact aw.ag mp |exact aw
         clear hK K;try simp only[Act.put,q5,q6,q7]
         apply TB 1 [(12,[])];kernel_rfl;rfl;· (repeat (apply eH;rfl;rfl;(· intro w bl;go_simp<;>with_reducible rfl);try simp only[Act.put,q5,q6,q7]));exact eG
         exact jh;intro jh;refine R2 13 (by kernel_rfl) (by rfl) jh fun K hK aw=> ?_
         (have sb:=aw.bK qp.out mU.out;have fb:World.frozen? _ _=_:=(World.frozen?_of_block (aw.block gw (bM mU.out) qp.out)).trans N2.out;go_simp)
         refine hK.out _ _ (.inl rfl) (fun mq=> ?_);clear hK K;try simp only[Act.put,q5,q6,q7]
         refine aD (by kernel_rfl) ?_ _;refine NoPanic.normal ?_;have hcut:(bO ((keep++[n])++l0.drop (keep++[n]).length)).take (keep.length+1)=bO (keep++[n]):=by have :=vq (keep:=keep++[n]) (l0:=l0);rw[aj,bN]at this;rw[aj,bN];exact this
         have hi9:Ints w8 (some ⟨g0,0,none⟩) c0 (bO ((keep++[n])++l0.drop (i+1))):=by
          have :=Kh.qw (keep.length+1+(l0.length-(i+1)));rw[hcut]at this;have e:(bO (keep++[n])++bO (l0.drop (i+1))).length=keep.length+1+(l0.length-(i+1)):=by rw[aj,bf,bf,List.length_drop,aj,bN]
          rw[mY (by rw[e];exact ap _),dC (by rw[e];exact ap _)]at this;unfold bO at this⊢;rw[bH];exact this
         obtain⟨IA,fE,_,L8,h8,FM,BS,Uy,qH⟩:=H7.out.VX (c:=cy) N3.out (A0:=some ⟨g0,0,none⟩) om.out hi9 aw (fun k hk=> .inl hk);obtain rfl :gw=IA:=by rw[N1.out]at fE;simpa using fE
         have QE:((keep++[n])++l0.drop (i+1)).length=keep.length+1+(l0.length-(i+1)):=by simp;omega
         rw[QE]at h8 qH;have Nj:L.ext L8 w:=by
          refine⟨FM.trans iU.out.1,BS.trans iU.out.2.1,fun k hk e=> ?_⟩;rcases Uy k (aK hk rL.out.size) (e.trans iU.out.2.1.symm)with h1 |h1
          ·exact iU.out.2.2 k hk (h1.trans iU.out.2.1)
          ·rcases FV.out k h1 with h2 |h2
           ·exact(aO.bT.1 h2).2
           ·omega
         have Q5:=rL.out.trans qH (fun k hk=>by
          rcases ah.1 hk with h1 |h1
          ·exact FV.out k h1
          ·rw[aO.bT]at h1;rcases bv k w.heap.size with hl |hl
           ·exact .inl (aO.bT.2 ⟨hl,iU.out.2.2 k hl (h1.2.trans iU.out.2.1)⟩)
           ·exact .inr hl)
         have xv:q1.cm cy ((keep++[n])++l0.drop (i+1))=VR.1:=(by rw[<-Tw.out])
         rw[xv]at h8;have FF:=aa (na.out VR.1 (some n) OL.out _ L8 h8 Nj Q5);clear Kh mp hi9 h8 Nj Q5 xv aw qH;go_wp2_with fail;go_ret;exact FF.out
      |false=>
       have akr:=anw.out rfl;subst akr;have jL:=aa0.out;simp only[dD,if_false,if_true]at jL;have aaY:=aa jL;clear jL;go_wp2_with fail;go_roundg (gk-1);case measure=>have :=HI.out;omega
       case rel=>exact⟨i+1,keep,q1,L3,by have :=HI.out;omega,by omega,rfl,by go_num,aaY.out,HVO.out.1.less (by simp),FS.out,⟨by rw[HVO.out.2.2.1];exact qP.out.1,by rw[HVO.out.2.1];exact qP.out.2.1,by rw[HVO.out.2.2.2.2];exact qP.out.2.2⟩,H3.out,iU.out,SH.out,WF.out,om.out⟩
     ·obtain rfl :i=l0.length:=by omega
      clear HI;have pw:cy<L2.ws.length:=by rw[H2.out.sf,qP.out.2.2];have :=AJ.out;rw[H1L.out]at this;exact this
      obtain⟨gw,uZ,sw,fw⟩:=H2.out.Yr pw;obtain⟨-,-,-,-,c4,-⟩:=H2.out.cells;rw[uZ,dn.out.1]at c4;have Fs:Hid (L.a∉ak (some ⟨g0,0,none⟩)):=fun hm=>jw.out _ hm (H2.out.jN (.inl (by rw[dn.out.1])));have qp:Hid (gw∉ak (some ⟨g0,0,none⟩)):=fun hm=>jw.out _ hm (H2.out.jN (.inr (.inr (.inr (.inr (.inl (by rw[uZ];simp[ak])))))));have Fz:=aa c4;have mU:=aa sw;have N2:=aa fw;have N1:=aa uZ;have jL:=HVS.out;rw[List.drop_length]at jL;simp only[Sv.bU]at jL;rw[TD.out]at jL;have uU:=H2.out.tk pw;have CO:=H2.out.sD cy pw;have Ou:=vk.out.room cy;have Qw:∀k,k∈ak (L2.ws[cy]!).A->k∉ak (some ⟨g0,0,none⟩):=fun k hk hm=>jw.out k hm (H2.out.jN (.inr (.inr (.inr (.inr (.inr (.inr (.inr (.inr (.inr ⟨cy,pw,hk⟩))))))))));unfold Sv.fY at uU jL;rw[uU]at Ou jL;obtain⟨⟨A9,c9,l9⟩,GS⟩:∃x,L2.ws[cy]! =x:=⟨_,rfl⟩
      rw[GS]at sw CO Ou jL Qw;rw[GS]at mU;simp only at sw CO Ou jL mU Qw;have CX:=aa CO;have Tw:=aa jL;have Ev:Ints wr (some ⟨g0,0,none⟩) c0 (bO keep):=by have :=nZ.out.qw keep.length;rw[vq]at this;exact this
      have HKP:=aa Ev;have QS:cy<L2.ws.length:=pw;have N3:=aa QS;have OL:Hid (Sv.di f { VR.1 with head:=S1.head+1 }=cT):=by
       rcases vO.out with h1 |⟨n,h1,_⟩
       ·exact h1.1
       ·rw[<-Tw.out]at h1;simp at h1
      have akM:keep.length<=4398046511104:=(by omega)
      clear GS uU CO jL Ev sw fw uZ c4 pw;go_upto_region 17 with fail;refine aam ?_;refine bi (fun w':World=>Fr (ak (some ⟨g0,0,none⟩)) wr w') 17 (by kernel_rfl) ((Fr.refl _ wr).drew) (fun cZ=> ?_);apply TB 11 [(0,[]),(1,[]),(2,[]),(3,[3,17]),(4,[]),(6,[]),(7,[]),(8,[]),(9,[]),(10,[10,17]),(11,[])];kernel_rfl;rfl;· (repeat (apply eH;rfl;rfl;(· intro w bl;(try(have bl:=bl.resolve_left (aF _ _);(have s4:=bl.bK Fs.out Fz.out;have s5:=bl.bK qp.out mU.out)));go_simp<;>with_reducible rfl);try simp only[Act.put,q5,q6,q7]));exact eG
      exact cZ;intro cZ;refine R2 5 (by kernel_rfl) (by rfl) cZ fun K hK aw=> ?_
      (go_simp;refine(KC.out _).mono ?_;rintro e w5 ⟨rfl,rfl⟩;dsimp only)
      refine hK.out _ _ (.inr ?_) (fun jh=> ?_)
      ·first |exact aw.ag gy |exact aw
      clear hK K;try simp only[Act.put,q5,q6,q7]
      refine R2 12 (by kernel_rfl) (by rfl) jh fun K hK aw=> ?_
      (go_simp;refine(KC.out _).mono ?_;rintro e w5 ⟨rfl,rfl⟩;dsimp only)
      refine hK.out _ _ (.inr ?_) (fun kH=> ?_)
      ·first |exact aw.ag gy |exact aw
      clear hK K;try simp only[Act.put,q5,q6,q7]
      apply TB 2 [(13,[]),(14,[14,17])];kernel_rfl;rfl;· (repeat (apply eH;rfl;rfl;(· intro w bl;(try(have bl:=bl.resolve_left (aF _ _);(have s4:=bl.bK Fs.out Fz.out;have s5:=bl.bK qp.out mU.out)));go_simp<;>with_reducible rfl);try simp only[Act.put,q5,q6,q7]));exact eG
      exact kH;intro kH;refine R2 15 (by kernel_rfl) (by rfl) kH fun K hK aw=> ?_
      (refine mH rfl _ _ rfl (some ⟨g0,0,none⟩) c0 (bO keep) _ rfl (bf keep).symm ?Eo A9 _ c9 (bO l9) (bf l9) rfl ?Hs (by rw[bf,bf];omega) ?_;(case Eo=>first |exact HKP.out.drew |exact HKP.out);(case Hs=>first |exact CX.out.drew |exact CX.out);intro A' cap w7 BT gy XH sY)
      refine hK.out _ _ (.inr ?_) (fun mQ=> ?_)
      ·first |exact aw.ag gy |exact aw
      clear hK K;try simp only[Act.put,q5,q6,q7]
      apply TB 1 [(16,[])];kernel_rfl;rfl;· (repeat (apply eH;rfl;rfl;(· intro w bl;go_simp<;>with_reducible rfl);try simp only[Act.put,q5,q6,q7]));exact eG
      exact mQ;intro mQ;refine R2 17 (by kernel_rfl) (by rfl) mQ fun K hK aw=> ?_
      (have sb:=aw.bK qp.out mU.out;have fb:World.frozen? _ _=_:=(World.frozen?_of_block (aw.block gw (bM mU.out) qp.out)).trans N2.out;go_simp)
      refine hK.out _ _ (.inl rfl) (fun kh=> ?_);clear hK K;try simp only[Act.put,q5,q6,q7]
      refine aD (by kernel_rfl) ?_ _;refine NoPanic.normal ?_;have Kh:Ints w7 A' cap (bO (keep++l9)):=by have :=BT;unfold bO at this⊢;rw[bH];exact this
      obtain⟨IA,fE,_,L8,h8,FM,BS,Uy,mp⟩:=H2.out.VX (c:=cy) N3.out (A0:=(some ⟨g0,0,none⟩)) jw.out Kh aw (fun k hk=>(XH k hk).imp id (fun e=>by rw[e];exact ap _));obtain rfl :gw=IA:=by rw[N1.out]at fE;simpa using fE
      simp only[aj]at h8 mp;obtain⟨W8,hW8⟩:∃W,w7.setCell ⟨gw,cy,none⟩ (.slice A' (keep.length+l9.length) cap)=W:=⟨_,rfl⟩
      rw[hW8]at h8 mp⊢;have Nj:L.ext L8 w:=by
       refine⟨FM.trans dn.out.1,BS.trans dn.out.2.1,fun k hk e=> ?_⟩;rcases Uy k (aK hk cw.out.size) (e.trans dn.out.2.1.symm)with h1 |h1
       ·exact dn.out.2.2 k hk (h1.trans dn.out.2.1)
       ·rcases FV.out k h1 with h2 |h2
        ·exact(aO.bT.1 h2).2
        ·omega
      have Q5:Fr (L.own w) w W8:=cw.out.trans mp (fun k hk=>by
       rcases ah.1 hk with h1 |h1
       ·exact FV.out k h1
       ·rw[aO.bT]at h1;rcases bv k w.heap.size with hl |hl
        ·exact .inl (aO.bT.2 ⟨hl,dn.out.2.2 k hl (h1.2.trans dn.out.2.1)⟩)
        ·exact .inr hl)
      have xv:S2.cm cy (keep++l9)=VR.1:=(by rw[<-Tw.out])
      rw[xv]at h8;have hhv:=Jd.out.2.2.1;have hh9:VR.1.head=S1.head:=hhv;have Oi:VR.1.vars=S1.vars:=Jd.out.2.1;have ZK:S1.T.lits.length<=VR.1.T.lits.length:=by have :=Sv.lM off l0 [] (S1.cm cy []);rw[Wk.out]at this;exact this
      have c8:=h8.cells.2.2.2.2.2.2.2.2.1;have f8:=h8.obj.frozen 8;rw[hh9]at c8;rw[FM.trans dn.out.1]at c8 f8;obtain⟨h9,qH⟩:=h8.vo (S1.head+1);rw[FM.trans dn.out.1]at h9 qH;have H9:=aa h9;have yO:=aa (aO.aQ Nj Q5 qH);have HE9:=aa Nj;have HO9:Hid (({ VR.1 with head:=S1.head+1 }:Sv).Ok 0):=(by have o:=Jd.out.1;exact⟨o.vl,o.tr,o.hi,o.hl,o.ph,o.wl,o.ll,o.wb,o.wt,o.lr,o.ln,o.lb,by show S1.head+1<=VR.1.T.lits.length;omega,o.rs⟩:({ VR.1 with head:=S1.head+1 }:Sv).Ok 0)
      have aaX:=aa Oi;have hhb:S1.head<=262143:=(by omega)
      clear hW8 h8 mp Nj Q5 xv hhv hh9 Oi ZK h9 qH BT gy XH sY Kh Uy FM BS aw;go_wp2_with fail;go_roundg f;case measure=>omega
      case rel=>exact⟨{ VR.1 with head:=S1.head+1 },L8,OL.out,(by show VR.1.vars+1<=f+(S1.head+1);have :=HFU.out;have :=aaX.out;omega),HO9.out,H9.out,HE9.out,yO.out⟩

  ·have hd:decide ((S1.head:Int)<(S1.T.lits.length:Int))=false:=aah (by omega);have HRZ:Hid (cT=(S1,none)):=by have h1:=tf.out;rw[nR bw]at h1;exact h1.symm
   go_wp2_with fail;refine au (by kernel_rfl) (by kernel_rfl) ?_;repeat (go_big_quiet_step (exact bh (KL.out _)))
   refine aak ?_;rintro w2 ⟨u2,b8⟩;have bj:Hid (Fr [] wr w2):=b8▸u2.fr;clear b8 u2;have FF:=aa (na.out S1 none HRZ.out w2 L1 (H1.out.keep bj.out) fa.out (dI.out.ag (bj.out.mono (fun k hk=>by cases hk))));clear e0 e8 c0 c8 KL hd;go_wp2_with fail;go_ret;exact FF.out
theorem PC.len {V:Hp} (h:PC V):V.items.length<=V.at_.length:=by
 have hn:(V.items.map Int.toNat).Nodup:=by
  unfold List.Nodup;rw[List.pairwise_map,List.pairwise_iff_getElem];intro i j hi hj tM e;have ri:=h.oF i hi;have rj:=h.oF j hj;have gi:V.items[i]! =V.items[i]:=by simp[ae,af hi]
  have gj:V.items[j]! =V.items[j]:=by simp[ae,af hj]
  have :=h.inj hi hj (by rw[gi,gj];rw[gi]at ri;rw[gj]at rj;omega);omega
 have :=ja V.at_.length _ hn (fun x hx=>by
  rw[aG]at hx;obtain⟨y,hy,rfl⟩:=hx;obtain⟨i,hi,e⟩:=List.getElem_of_mem hy;have ri:=h.oF i hi;have gi:V.items[i]! =V.items[i]:=by simp[ae,af hi]
  rw[gi,e]at ri;omega)
 simpa using this
theorem fW.cv (L:fW) (w:World):L.ext L w:=⟨rfl,fun _ h=> .inl h,fun h=>h⟩
theorem xr (w:World) (L:fW) (H:Hp) (h:cI w L H) (hi:HI H) (hl:H.at_.length<=262145) (x:Int):
  Calls Tryz.prog 119 #[.pointer (some ⟨L.a,0,none⟩), .int .i64 x] w fun e w'=>∃b,e= .returned (.bool b)/\∃L',cI w' L' (Sv.fC H x)/\L.ext L' w/\Fr L.fp w w':=by
 unfold Sv.fC;have qh:=hi.pc.len;by_cases hb:H.jq x=true/\H.pl x<0
 ·rw[aae hb];refine(zg w L H h hi.pc.oF x hb.1 hb.2 (by omega)).mono ?_;rintro e w' ⟨rfl,L',h1,h2,h3⟩;exact⟨_,rfl,L',h1,h2,h3⟩
 ·rw[aac hb];refine(BY w L H h x ?_).mono ?_
  ·cases hc:H.jq x with
   |false=>exact .inl rfl
   |true=>exact .inr ⟨rfl,Int.not_lt.1 fun h=>hb ⟨hc,h⟩⟩
  rintro e w' ⟨rfl,rfl⟩;exact⟨_,rfl,L,h,fW.cv _ _,Fr.refl _ _⟩
theorem EC (w:World) (L:fW) (H:Hp) (h:cI w L H) (hi:HI H) (x b:Int):
  Calls Tryz.prog 215 #[.pointer (some ⟨L.a,0,none⟩), .int .i64 x, .int .i64 b] w fun e w'=>e= .returned (.tuple #[])/\cI w' L (Sv.mg H x b)/\Fr L.fp w w':=by
 unfold Sv.mg;by_cases hb:H.jq x=true/\0<=b/\b<=1099511627776/\H.sc x<=1125899906842624-b
 ·rw[aae hb];obtain⟨h1,h2,h3,h4⟩:=hb;have hx:=Hp.dB h1;have hs:=hi.Yz x.toNat (by rw[<-hi.same];omega);have Ap:H.pl x<H.items.length:=by
   unfold Hp.pl;by_cases h0:0<=H.at_[x.toNat]!
   ·have :=(hi.pc.inv x.toNat (by omega) h0).1;omega
   ·omega
  exact xq w L H h hi.pc.oF x b h1 h2 h3 h4 hs Ap
 ·rw[aac hb];refine(zf w L H h x b hb).mono ?_;rintro e w' ⟨rfl,rfl⟩;exact⟨rfl,h,Fr.refl _ _⟩
theorem HI.fC {H:Hp} (h:HI H) (x:Int):HI (Sv.fC H x)/\(Sv.fC H x).at_.length=H.at_.length:=by
 unfold Sv.fC;split
 ·rename_i hb;have :=h.push hb.1 hb.2;exact⟨this.1,this.2.2.2.1⟩
 ·exact⟨h,rfl⟩
theorem aX.WW {w:World} {L:aO} {S:Sv} (h:aX w L S) {v:Nat} (hv:v<S.phase.length) (b:Bool):
  ∃gp,L.pA=some ⟨gp,0,none⟩/\w.cell? ⟨gp,v,none⟩=some (.bool S.phase[v]!)/\w.frozen? ⟨gp,v,none⟩=false/\aX (w.setCell ⟨gp,v,none⟩ (.bool b)) L { S with phase:=S.phase.set v b }/\Fr (L.own w) w (w.setCell ⟨gp,v,none⟩ (.bool b)):=by
 have r:=h.vp;unfold Bools at r;obtain⟨gp,hg,uy⟩:∃gp,L.pA=some ⟨gp,0,none⟩/\gp<w.heap.size:=by
  rcases r.2 with⟨_,h2⟩ |⟨g,cap,cur,hv,_,hg,_⟩
  ·omega
  ·simp only[Value.slice.injEq,true_and]at hv;exact⟨g,hv.1,At.lt (t:=4) hg⟩
 rw[hg]at r;have lf:L.cY gp=(L.id,5,0):=h.t5 gp (by rw[hg];simp[ak]);have hf:Fr [gp] w (w.setCell ⟨gp,v,none⟩ (.bool b)):=(Fr.refl _ w).setCell (.inl (by simp)) _;have o:=h.off (P:=(· =(5,0))) hf (fun k hk hl=>⟨_,rfl,by simp at hk;subst hk;exact lf⟩);have gU:=(World.ownsRow.stored r v (.bool b)).1;refine⟨gp,hg,?_,World.ownsRow.frozenAt r v,⟨?_,o.tr (by decide),o.hp (by decide),h.iQ,h.Cb,h.B9,o.vt (by decide),o.rws (by decide),?_,o.yz (by decide),o.uQ (by decide),fun n hn=>o.ql n hn (by simp),fun n hn=>o.sD n hn (by simp),
  h.t0,h.t1,h.t2,h.t3,h.t4,h.t5,h.t6,h.t7,h.t8,h.t9⟩,aO.gS hf (fun k hk hl=>by simp at hk;subst hk;rw[lf])⟩
 ·rw[World.ownsRow.cellAt r v (by omega)];simp only[aJ,af hv,cD,ae,ay]
 ·have :=o.obj (by decide);simp only[pM,ao]at this⊢;exact this
 ·unfold Bools;simp only[ao,List.map_set];rw[hg];exact gU
theorem aX.YC {w:World} {L:aO} {S:Sv} (h:aX w L S) {v:Nat} (hv:v<S.phase.length):
  ∃gp,L.pA=some ⟨gp,0,none⟩/\w.cell? ⟨gp,v,none⟩=some (.bool S.phase[v]!)/\w.frozen? ⟨gp,v,none⟩=false:=by
 obtain⟨gp,h1,h2,h3,_⟩:=h.WW hv false;exact⟨gp,h1,h2,h3⟩
namespace Sv
def qN (S:Sv) (l:Int):Sv:={ S with phase:=S.phase.set (tv l).toNat (decide (0<l)),H:=fC S.H (tv l) }
theorem yg {S:Sv} {level l:Int} {r:List Int} (h:¬S.T.dp (tv l)<=level):dY level (l::r) S=dY level r (S.qN l):=by simp only[dY];rw[aac h];rfl
theorem rz {S:Sv} {level l:Int} {r:List Int} (h:S.T.dp (tv l)<=level):dY level (l::r) S=S:=by simp only[dY];rw[aae h]
theorem Ok.qN {S:Sv} {m:Nat} (ok:S.Ok m) (l:Int):(S.qN l).Ok m:=by obtain⟨h1,h2⟩:=ok.hi.fC (tv l);exact⟨ok.vl,ok.tr,h1,by show(Sv.fC S.H (tv l)).at_.length=_;rw[h2];exact ok.hl,by show(S.phase.set _ _).length=_;rw[ao];exact ok.ph,ok.wl,ok.ll,ok.wb,ok.wt,ok.lr,ok.ln,ok.lb,ok.hd,ok.rs⟩
theorem Ok.cut {S:Sv} {m:Nat} (ok:S.Ok m) (level:Nat) (hl:level<S.T.levels.length):
  ({ S with T:=S.T.df level,head:=min S.head (S.T.df level).lits.length }:Sv).Ok m/\(S.T.df level).levels.length=level:=by
 obtain⟨R,hR⟩:=ok.tr;have hb:=hR.back level hl;have hd:=hb.dep;have iK:TRep (S.T.df level) S.vars (R.filter (fun e:St=>decide (e.l<=(level:Int)))) (S.T.df level).levels.length:=by rw[hd];exact hb
 refine⟨⟨ok.vl,⟨_,iK⟩,ok.hi,ok.hl,ok.ph,ok.wl,ok.ll,ok.wb,ok.wt,ok.lr,ok.ln,ok.lb,Nat.min_le_right _ _,fun v=> ?_⟩,hd⟩;have e:=hb.fy v;have e0:=hR.fy v;have Et:=ok.rs v;show 0<=(S.T.df level).fy v/\(S.T.df level).fy v<=_;rw[e];cases hk:look (R.filter (fun e:St=>decide (e.l<=(level:Int)))) v with
 |none=>simp
 |some x=>
  obtain⟨hm,hv⟩:=iN hk;have hx:=im hR.nd (dx.1 hm).1;rw[hv]at hx;rw[hx]at e0;simp only at e0⊢;rw[<-e0];exact Et
theorem jG (level:Int):∀(r:List Int) (S:Sv) (m:Nat),S.Ok m->(dY level r S).Ok m/\(dY level r S).T=S.T/\(dY level r S).head=S.head/\(dY level r S).vars=S.vars/\(dY level r S).list=S.list
 |[],S,m,ok=>⟨ok,rfl,rfl,rfl,rfl⟩
 |l::r,S,m,ok=>by
  by_cases h:S.T.dp (tv l)<=level
  ·rw[rz h];exact⟨ok,rfl,rfl,rfl,rfl⟩
  ·rw[yg h];exact jG level r _ m (ok.qN l)
theorem Ok.back {S:Sv} {m:Nat} (ok:S.Ok m) (level:Nat):(S.back level).Ok m/\(S.back level).vars=S.vars/\(S.back level).list=S.list:=by
 unfold Sv.back;split
 ·exact⟨ok,rfl,rfl⟩
 ·rename_i h;obtain⟨h1,h2,h3,h4,h5⟩:=jG (level:Int) S.T.lits.reverse S m ok;have :=(h1.cut level (by rw[h2];omega)).1;exact⟨this,h4,h5⟩
end Sv
end Go.Proofs.YtjmmpfjcpdepjaaGreatDoor
