/- Parts of a proof. -/
import Derived.Test.YtdgplmgfkliijaaGreatGAC
import Derived.Laws.MakeOwn
set_option linter.unusedVariables false
set_option linter.unusedSimpArgs false
set_option maxHeartbeats 8000000
set_option maxRecDepth 100000
namespace Go.Proofs.YtdgplmgfkliijaaGreat
open Go.RowKit
theorem bf.swap {w:World} {L:aQ} {S:Sv} (h:bf w L S) {n i j:Nat} (hn:n<L.cs.length) (hi:i<(L.cs[n]!).lits.length) (hj:j<(L.cs[n]!).lits.length) {g:Nat} (hg:(L.cs[n]!).A=some ⟨g,0,none⟩):
  ∃L',bf ((w.setCell ⟨g,i,none⟩ (.int .i64 ((L.cs[n]!).lits[j]!))).setCell ⟨g,j,none⟩ (.int .i64 ((L.cs[n]!).lits[i]!))).drew L' (S.ep n (dg (L.cs[n]!).lits i j))∧L.ext L' w∧
   Fr (L.own w) w ((w.setCell ⟨g,i,none⟩ (.int .i64 ((L.cs[n]!).lits[j]!))).setCell ⟨g,j,none⟩ (.int .i64 ((L.cs[n]!).lits[i]!))).drew∧L'.cs=L.cs.set n { L.cs[n]! with lits:=dg (L.cs[n]!).lits i j }∧L'.tL=L.tL:=by
 have hr:=h.pr n hn
 have Fe:=hr
 rw [hg] at Fe
 have hI:=((Fe.eo i ((L.cs[n]!).lits[j]!)).eo j ((L.cs[n]!).lits[i]!)).drew
 have hf:Fr [g] w ((w.setCell ⟨g,i,none⟩ (.int .i64 ((L.cs[n]!).lits[j]!))).setCell ⟨g,j,none⟩ (.int .i64 ((L.cs[n]!).lits[i]!))).drew:=(((Fr.refl [g] w).setCell (.inl (by simp)) _).setCell (.inl (by simp)) _).drew
 obtain ⟨L',h1,h2,h3,h4,h5,h6,h7⟩:=h.Tp hn (ls:=dg (L.cs[n]!).lits i j) (F:=[g]) (by rw [hg];exact hI) (fv _ _ _) hf (fun k hk _=>by
  simp at hk
  subst hk
  exact h.t8 n hn k (by rw [hg];simp [ap]))
 exact ⟨L',h1,h2,h3,h4,h7⟩
theorem Bv (w:World) (L:aQ) (S:Sv) (h:bf w L S) (m:Nat) (ok:S.Ok (m+1)) (n:Nat) (hn:n<S.list.length) (off:Int):
  Calls Tryz.prog 132 #[.pointer (some ⟨L.a,0,none⟩), .int .i64 n, .int .i64 off] w (oF (.tuple #[.bool (S.cY n off).2.1, .bool (S.cY n off).2.2]) (S.cY n off).1 L w):=by
 have rR:n<L.cs.length:=by rw [h.ni];exact hn
 have ed:=h.pD rR
 obtain ⟨gc,i9,x0,-,-⟩:=h.pB rR
 have fJ:=h.pr n rR
 have Ht:=ok.ln n
 have xB:=ok.lb n
 have jA:=fun k hk=>ok.lit (n:=n) (k:=k) hk
 rw [ed] at Ht xB jA
 simp only [Cw.rc] at Ht xB jA
 have sO:=ae (fun i j g h1 h2 h3=>h.swap (i:=i) (j:=j) (g:=g) rR h1 h2 h3)
 obtain ⟨⟨A,c,l,b,ac⟩,hx⟩:∃x,L.cs[n]! =x:=⟨_,rfl⟩
 rw [hx] at ed x0 fJ Ht xB jA sO
 simp only [Cw.rc] at ed x0 fJ Ht xB jA sO
 have mt:=ae fJ
 have HH:=ae h
 have kM:=ae ok
 have HVL:=ok.vl
 have sD:=ok.ll
 obtain ⟨c0,-,-,c3,-⟩:=h.cells
 rw [i9] at c3
 have uT:=ae c0
 have Un:=ae (show (S.rc n).lits=l by rw [ed])
 obtain ⟨VF,hVF⟩:∃VF,S.cY n off=VF:=⟨_,rfl⟩
 have Ul:=ae hVF
 rw [hVF]
 have mF:al (∀(S':Sv) (r1 r2:Bool),VF=(S',r1,r2)→∀W L',bf W L' S'→L.ext L' w→Fr (L.own w) w W→oF (.tuple #[.bool VF.2.1, .bool VF.2.2]) VF.1 L w (.returned (.tuple #[.bool r1, .bool r2])) W):=fun S' r1 r2 e W L' g1 g2 g3=>by
  subst e
  exact ⟨rfl,L',g1,g2,g3⟩
 have HNR:=ae hn
 have Hu:=h.ni
 have ajj:al (L.cs.length=S.list.length):=Hu
 clear hVF ed fJ h hx
 by_cases rS:l.length=0
 ·have WY:al (VF=(S,false,true)):=(by rw [←Ul.o];unfold Sv.cY;rw [if_pos (by rw [Un.o];exact rS)]:VF=(S,false,true))
  have F0:=ae (fun W hW=>mF.o S false true WY.o W L (HH.o.keep hW) (aQ.co _ _) (hW.mono (fun k hk=>by cases hk)))
  have hd:((l.length:Int)==0)=true:=by simp [rS]
  clear Ul WY mF sO
  go_enter Tryz.func132,Tryz.ntmps132
  go_wp2
  go_ret2
  exact F0.o _ (Fr.refl _ _)
 ·have jM:2≤l.length:=by omega
  have aaq:0<l.length:=by omega
  have amM:1<l.length:=by omega
  have hd:((l.length:Int)==0)=false:=by rw [beq_eq_false_iff_ne];omega
  have KW:al (VF=(S.cG n off).fI n):=(by rw [←Ul.o];unfold Sv.cY;rw [if_neg (by rw [Un.o];exact rS)]:VF=(S.cG n off).fI n)
  obtain ⟨gb,hA,sE⟩:=mt.o.pos (i:=0) (by omega)
  subst hA
  have D4:=mt.o.cell (i:=0) (by omega)
  have Kj:=mt.o.cell (i:=1) (by omega)
  have fr0:=mt.o.frozen 0
  have fr1:=mt.o.frozen 1
  have Gw:=ae jA
  clear jA Ul
  by_cases tT:l[0]! =off
  ·have HT:al (S.cG n off=S.ep n (dg l 0 1)):=(by unfold Sv.cG;rw [Un.o,if_pos tT]:S.cG n off=S.ep n (dg l 0 1))
   have hto:=kM.o.cG n off
   have hts:=Sv.nR S n off
   rw [HT.o] at hto hts KW
   have ZV:((S.ep n (dg l 0 1)).rc n).lits=dg l 0 1:=by rw [Sv.lj,if_pos ⟨rfl,HNR.o⟩]
   have uE:(dg l 0 1)[0]! =l[1]! :=by rw [lV (by omega) (by omega) (by omega)];simp
   obtain ⟨y0,jJ⟩:∃y,l[0]! =y:=⟨_,rfl⟩
   obtain ⟨y1,im⟩:∃y,l[1]! =y:=⟨_,rfl⟩
   have Cn:=Gw.o 1 (by omega)
   obtain ⟨L1,g1,g2,g3,g4,g5⟩:=sO.o 0 1 gb (by omega) (by omega) rfl
   have uK:=((mt.o.eo 0 l[1]!).eo 1 l[0]!).drew.cell (i:=0) (by simp;omega)
   rw [im] at uE Cn
   rw [jJ,im] at g1 g3 uK
   rw [jJ] at D4 tT
   rw [im] at Kj
   have uK:((w.setCell ⟨gb,0,none⟩ (.int .i64 y1)).setCell ⟨gb,1,none⟩ (.int .i64 y0)).drew.cell? ⟨gb,0,none⟩=some (.int .i64 y1):=by
    rw [uK]
    simp only [aa]
    rw [List.getElem?_set_ne (by omega),List.getElem?_set_self (by omega)]
    rfl
   have hb:(y0==off)=true:=by simp [tT]
   have G1:=ae g1
   have G2:=ae g2
   have G3:=ae g3
   have Iz:=ae uK
   have Pb:=ae hto
   have WZ:=ae hts
   have W7:=ae ZV
   have Mb:=ae uE
   clear g1 g2 g3 g4 g5 uK hto hts ZV uE tT jJ im HT
   go_enter Tryz.func132,Tryz.ntmps132
   go_upto_region 5 with fail
   go_region
   go_upto_region 6 with fail
   obtain ⟨W1,jr⟩:∃W,((w.setCell ⟨gb,0,none⟩ (.int .i64 y1)).setCell ⟨gb,1,none⟩ (.int .i64 y0)).drew=W:=⟨_,rfl⟩
   rw [jr] at G1 G3 Iz⊢
   obtain ⟨S1,D3⟩:∃S1,S.ep n (dg l 0 1)=S1:=⟨_,rfl⟩
   rw [D3] at G1 KW Pb WZ W7
   rw [←W7.o] at Mb
   clear jr D3 W7 c0 c3 x0 D4 Kj fr0 fr1 sO mt hb hd HH
   have hT:=WZ.o.1
   have oZ:n<S1.list.length:=by rw [WZ.o.2.2.1];exact HNR.o
   have tE:=ae oZ
   have c0:=G1.o.cells.1
   rw [G2.o.1] at c0
   have PO:=ae c0
   have Pd:=ae Pb.o.small
   have Gi:=ae (fun u:Ext W1=>dQ u.v L1.tL S1.T (G1.o.tr.fr u.fr (by simp)) y1 (by omega) (by omega) Pd.o)
   obtain ⟨v,hv⟩:∃v,S1.T.kQ y1=v:=⟨_,rfl⟩
   have Gg:=ae hv
   simp only [hv] at Gi
   have e0:=Ext.cell c0
   have ey:=Ext.cell Iz.o
   clear hv hT oZ
   by_cases hp:0<v
   ·have hd:decide (0<v)=true:=decide_eq_true hp
    have xZ:al (VF=(S1,true,true)):=(by
     rw [KW.o]
     unfold Sv.fI
     simp only [Mb.o]
     rw [if_pos (by unfold Sv.val;rw [Gg.o];omega)]:VF=(S1,true,true))
    refine ax ?_
    repeat (go_big_quiet_step (exact bk (Gi.o _)))
    refine gO ?_
    intro w2 bl
    have FF:=ae (mF.o _ true true xZ.o w2 L1 (G1.o.keep bl.o) G2.o (G3.o.aj (bl.o.mono (fun k hk=>by cases hk))))
    clear e0 ey c0
    go_wp2
    go_ret2
    exact FF.o
   ·have hd:decide (0<v)=false:=decide_eq_false hp
    refine ax ?_
    repeat (go_big_quiet_step (exact bk (Gi.o _)))
    refine gO ?_
    intro w2 bl
    clear e0 ey c0
    have XG:=ae (G1.o.keep bl.o)
    have xo:=sX w2 L1 S1 XG.o (m+1) Pb.o n tE.o
    rw [G2.o.1] at xo
    have xo:=ae xo
    go_wp2_with fail
    refine xo.o.mono ?_
    clear xo
    rintro e w3 hc3
    rcases hc3 with ⟨rfl,hq,dD⟩ |⟨rfl,hq,L2,h2,jp,bZ⟩
    ·have xH:=ae hq
     have cZ:=ae (bl.o.aj dD)
     have XF:=ae (XG.o.keep dD)
     clear hq dD XG
     have c0:=cZ.o.aT PO.o
     have cy:=cZ.o.aT Iz.o
     have e0:=Ext.cell c0
     have ey:=Ext.cell cy
     have Gh:=ae (fun u:Ext w3=>dQ u.v L1.tL S1.T (XF.o.tr.fr u.fr (by simp)) y1 (by omega) (by omega) Pd.o)
     simp only [Gg.o] at Gh
     by_cases hng:v<0
     ·have rl:decide (v<0)=true:=decide_eq_true hng
      have xZ:al (VF=(S1,true,false)):=(by
       rw [KW.o]
       unfold Sv.fI
       simp only [Mb.o]
       rw [if_neg (by unfold Sv.val;rw [Gg.o];omega),if_neg (by rw [xH.o];simp),if_pos (by unfold Sv.val;rw [Gg.o];omega)]:VF=(S1,true,false))
      go_upto_region 10 with fail
      refine ax ?_
      repeat (go_big_quiet_step (exact bk (Gh.o _)))
      refine gO ?_
      intro w4 cv
      have fM:=ae (cZ.o.aj cv.o)
      have FF:=ae (mF.o _ true false xZ.o w4 L1 (XF.o.keep cv.o) G2.o (G3.o.aj (fM.o.mono (fun k hk=>by cases hk))))
      clear e0 ey c0 cy
      go_wp2
      go_ret2
      exact FF.o
     ·have rl:decide (v<0)=false:=decide_eq_false hng
      go_upto_region 10 with fail
      refine ax ?_
      repeat (go_big_quiet_step (exact bk (Gh.o _)))
      refine gO ?_
      intro w4 cv
      have fM:=ae (cZ.o.aj cv.o)
      have G4:=ae (XF.o.keep cv.o)
      have Ln:=ae (fM.o.aT PO.o)
      have Mg:=ae (fM.o.aT Iz.o)
      have HTL:al (S1.T.lits.length<17592186044416):=by
       obtain ⟨R,hR⟩:=Pb.o.tr
       have h1:=hR.fQ
       have h2:S1.T.lits.length=R.length:=by rw [hR.lits,aq]
       have h3:=Pb.o.vl
       show _<_
       omega
      have Xb:=ae (fun W (hW:Fr [] w4 W)=>rY W L1.tL S1.T (G4.o.tr.fr hW (by simp)) y1 ((n:Int)+1) (by omega) (by omega) HTL.o)
      have tV:n<2199023255552:=by have :=HNR.o;omega
      have dO:IntKind.i64.wrap ((n:Int)+1)=(n:Int)+1:=IntWalk.i64_in _ (by omega)
      clear e0 ey c0 cy
      go_upto_region 12 with fail
      refine wp_region_noPanic ?_
      refine bp (fun w':World=>Fr [] w4 w') 9 (by kernel_rfl) ((Fr.refl [] w4).drew) (fun db=> ?_)
      refine pf 9 [(0,[]),(1,[]),(2,[]),(3,[3,9]),(4,[]),(5,[]),(6,[6,9]),(7,[]),(8,[])] db (fun w cm=>And.intro (cm.aT Ln.o) (cm.aT Mg.o)) ?_;intro db
      refine R2 9 db fun K hK aH=> ?_
      (go_simp;refine (Xb.o _ aH).mono ?_;rintro e w5 ⟨rfl,tL2,Nj,Vi,Vh⟩;dsimp only)
      refine hK.out _ _ (.inl rfl) (fun lJ=> ?_)
      clear hK K
      try simp only [Act.put,q5,q6,q7]
      refine fo ?_
      have g4:=G4.o.keep aH
      obtain ⟨L5,h5,uI,eu⟩:=g4.qab Nj Vi Vh
      have xZ:al (VF=(S1.put y1 (n+1),true,true)):=(by
       rw [KW.o]
       unfold Sv.fI
       simp only [Mb.o]
       rw [if_neg (by unfold Sv.val;rw [Gg.o];omega),if_neg (by rw [xH.o];simp),if_neg (by unfold Sv.val;rw [Gg.o];omega)]:VF=(S1.put y1 (n+1),true,true))
      have hz:w.heap.size≤w4.heap.size:=aF G3.o.size fM.o.size
      have hE:L.ext L5 w:=by
       refine ⟨uI.1.trans G2.o.1,uI.2.1.trans G2.o.2.1,fun k hk e=>G2.o.2.2 k hk ?_⟩
       have :=uI.2.2 k (aK hk (aF hz aH.size)) (e.trans G2.o.2.1.symm)
       exact this.trans G2.o.2.1
      have hF:Fr (L.own w) w w5:=aQ.aR G2.o G3.o (((fM.o.aj aH).mono (fun k hk=>by cases hk)).trans eu (fun k hk=>by
       rw [aQ.bQ] at hk
       rcases bK k W1.heap.size with hl |hl
       ·exact .inl (aQ.bQ.2 ⟨hl,hk.2⟩)
       ·exact .inr hl))
      have FF:=ae (mF.o _ true true xZ.o w5 L5 h5 hE hF)
      go_wp2
      go_ret2
      exact FF.o
    ·have xZ:al (VF=((S1.di n).1,false,true)):=(by
      rw [KW.o]
      unfold Sv.fI
      simp only [Mb.o]
      rw [if_neg (by unfold Sv.val;rw [Gg.o];omega),if_pos hq]:VF=((S1.di n).1,false,true))
     have hz:w.heap.size≤w2.heap.size:=aF G3.o.size bl.o.size
     have hE:L.ext L2 w:=by
      refine ⟨jp.1.trans G2.o.1,jp.2.1.trans G2.o.2.1,fun k hk e=>G2.o.2.2 k hk ?_⟩
      have :=jp.2.2 k (aK hk hz) (e.trans G2.o.2.1.symm)
      exact this.trans G2.o.2.1
     have hF:Fr (L.own w) w w3:=aQ.aR G2.o G3.o ((bl.o.mono (fun k hk=>by cases hk)).trans bZ (fun k hk=>by
      rw [aQ.bQ] at hk
      rcases bK k W1.heap.size with hl |hl
      ·exact .inl (aQ.bQ.2 ⟨hl,hk.2⟩)
      ·exact .inr hl))
     have FF:=ae (mF.o _ false true xZ.o w3 L2 h2 hE hF)
     clear hq h2 jp bZ
     go_wp2
     go_ret2
     exact FF.o
  ·have HT:al (S.cG n off=S):=(by unfold Sv.cG;rw [Un.o,if_neg tT]:S.cG n off=S)
   rw [HT.o] at KW
   obtain ⟨y1,im⟩:∃y,l[0]! =y:=⟨_,rfl⟩
   have Cn:=Gw.o 0 (by omega)
   rw [im] at Cn D4 tT
   have hb:(y1==off)=false:=by simp [tT]
   have Iz:=ae D4
   have Mb:al ((S.rc n).lits[0]! =y1):=(by rw [Un.o];exact im:(S.rc n).lits[0]! =y1)
   have G1:=HH
   have G2:=ae (aQ.co L w)
   have G3:al (Fr (L.own w) w w):=Fr.refl _ _
   have Pb:=kM
   have WZ:al (S.T=S.T∧S.vars=S.vars∧S.list.length=S.list.length∧S.head=S.head∧S.H=S.H∧S.watch=S.watch):=⟨rfl,rfl,rfl,rfl,rfl,rfl⟩
   obtain ⟨L1,xF⟩:∃L1,L1=L:=⟨_,rfl⟩
   have G1:al (bf w L1 S):=by rw [xF];exact HH.o
   have G2:al (L.ext L1 w):=by rw [xF];exact aQ.co L w
   obtain ⟨W1,jr⟩:∃W1,W1=w:=⟨_,rfl⟩
   obtain ⟨S1,D3⟩:∃S1,S1=S:=⟨_,rfl⟩
   clear tT im HT sO mt Gw
   go_enter Tryz.func132,Tryz.ntmps132
   go_upto_region 6 with fail
   rw [←D3] at Pb
   have WZ:al (S1.T=S.T∧S1.vars=S.vars∧S1.list.length=S.list.length∧S1.head=S.head∧S1.H=S.H∧S1.watch=S.watch):=by rw [D3];exact ⟨rfl,rfl,rfl,rfl,rfl,rfl⟩
   have G1:al (bf W1 L1 S1):=by rw [jr,D3];exact G1.o
   have G3:al (Fr (L.own w) w W1):=by rw [jr];exact G3.o
   have Iz:al (W1.cell? ⟨gb,0,none⟩=some (.int .i64 y1)):=by rw [jr];exact Iz.o
   have Mb:al ((S1.rc n).lits[0]! =y1):=by rw [D3];exact Mb.o
   have KW:al (VF=S1.fI n):=by rw [D3];exact KW.o
   rw [show Code.wp _ _ _ _ w=Code.wp _ _ _ _ W1 from by rw [jr]]
   clear jr D3 xF c0 c3 x0 D4 Kj fr0 fr1 hb hd HH
   have hT:=WZ.o.1
   have oZ:n<S1.list.length:=by rw [WZ.o.2.2.1];exact HNR.o
   have tE:=ae oZ
   have c0:=G1.o.cells.1
   rw [G2.o.1] at c0
   have PO:=ae c0
   have Pd:=ae Pb.o.small
   have Gi:=ae (fun u:Ext W1=>dQ u.v L1.tL S1.T (G1.o.tr.fr u.fr (by simp)) y1 (by omega) (by omega) Pd.o)
   obtain ⟨v,hv⟩:∃v,S1.T.kQ y1=v:=⟨_,rfl⟩
   have Gg:=ae hv
   simp only [hv] at Gi
   have e0:=Ext.cell c0
   have ey:=Ext.cell Iz.o
   clear hv hT oZ
   by_cases hp:0<v
   ·have hd:decide (0<v)=true:=decide_eq_true hp
    have xZ:al (VF=(S1,true,true)):=(by
     rw [KW.o]
     unfold Sv.fI
     simp only [Mb.o]
     rw [if_pos (by unfold Sv.val;rw [Gg.o];omega)]:VF=(S1,true,true))
    refine ax ?_
    repeat (go_big_quiet_step (exact bk (Gi.o _)))
    refine gO ?_
    intro w2 bl
    have FF:=ae (mF.o _ true true xZ.o w2 L1 (G1.o.keep bl.o) G2.o (G3.o.aj (bl.o.mono (fun k hk=>by cases hk))))
    clear e0 ey c0
    go_wp2
    go_ret2
    exact FF.o
   ·have hd:decide (0<v)=false:=decide_eq_false hp
    refine ax ?_
    repeat (go_big_quiet_step (exact bk (Gi.o _)))
    refine gO ?_
    intro w2 bl
    clear e0 ey c0
    have XG:=ae (G1.o.keep bl.o)
    have xo:=sX w2 L1 S1 XG.o (m+1) Pb.o n tE.o
    rw [G2.o.1] at xo
    have xo:=ae xo
    go_wp2_with fail
    refine xo.o.mono ?_
    clear xo
    rintro e w3 hc3
    rcases hc3 with ⟨rfl,hq,dD⟩ |⟨rfl,hq,L2,h2,jp,bZ⟩
    ·have xH:=ae hq
     have cZ:=ae (bl.o.aj dD)
     have XF:=ae (XG.o.keep dD)
     clear hq dD XG
     have c0:=cZ.o.aT PO.o
     have cy:=cZ.o.aT Iz.o
     have e0:=Ext.cell c0
     have ey:=Ext.cell cy
     have Gh:=ae (fun u:Ext w3=>dQ u.v L1.tL S1.T (XF.o.tr.fr u.fr (by simp)) y1 (by omega) (by omega) Pd.o)
     simp only [Gg.o] at Gh
     by_cases hng:v<0
     ·have rl:decide (v<0)=true:=decide_eq_true hng
      have xZ:al (VF=(S1,true,false)):=(by
       rw [KW.o]
       unfold Sv.fI
       simp only [Mb.o]
       rw [if_neg (by unfold Sv.val;rw [Gg.o];omega),if_neg (by rw [xH.o];simp),if_pos (by unfold Sv.val;rw [Gg.o];omega)]:VF=(S1,true,false))
      go_upto_region 10 with fail
      refine ax ?_
      repeat (go_big_quiet_step (exact bk (Gh.o _)))
      refine gO ?_
      intro w4 cv
      have fM:=ae (cZ.o.aj cv.o)
      have FF:=ae (mF.o _ true false xZ.o w4 L1 (XF.o.keep cv.o) G2.o (G3.o.aj (fM.o.mono (fun k hk=>by cases hk))))
      clear e0 ey c0 cy
      go_wp2
      go_ret2
      exact FF.o
     ·have rl:decide (v<0)=false:=decide_eq_false hng
      go_upto_region 10 with fail
      refine ax ?_
      repeat (go_big_quiet_step (exact bk (Gh.o _)))
      refine gO ?_
      intro w4 cv
      have fM:=ae (cZ.o.aj cv.o)
      have G4:=ae (XF.o.keep cv.o)
      have Ln:=ae (fM.o.aT PO.o)
      have Mg:=ae (fM.o.aT Iz.o)
      have HTL:al (S1.T.lits.length<17592186044416):=by
       obtain ⟨R,hR⟩:=Pb.o.tr
       have h1:=hR.fQ
       have h2:S1.T.lits.length=R.length:=by rw [hR.lits,aq]
       have h3:=Pb.o.vl
       show _<_
       omega
      have Xb:=ae (fun W (hW:Fr [] w4 W)=>rY W L1.tL S1.T (G4.o.tr.fr hW (by simp)) y1 ((n:Int)+1) (by omega) (by omega) HTL.o)
      have tV:n<2199023255552:=by have :=HNR.o;omega
      have dO:IntKind.i64.wrap ((n:Int)+1)=(n:Int)+1:=IntWalk.i64_in _ (by omega)
      clear e0 ey c0 cy
      go_upto_region 12 with fail
      refine wp_region_noPanic ?_
      refine bp (fun w':World=>Fr [] w4 w') 9 (by kernel_rfl) ((Fr.refl [] w4).drew) (fun db=> ?_)
      refine pf 9 [(0,[]),(1,[]),(2,[]),(3,[3,9]),(4,[]),(5,[]),(6,[6,9]),(7,[]),(8,[])] db (fun w cm=>And.intro (cm.aT Ln.o) (cm.aT Mg.o)) ?_;intro db
      refine R2 9 db fun K hK aH=> ?_
      (go_simp;refine (Xb.o _ aH).mono ?_;rintro e w5 ⟨rfl,tL2,Nj,Vi,Vh⟩;dsimp only)
      refine hK.out _ _ (.inl rfl) (fun lJ=> ?_)
      clear hK K
      try simp only [Act.put,q5,q6,q7]
      refine fo ?_
      have g4:=G4.o.keep aH
      obtain ⟨L5,h5,uI,eu⟩:=g4.qab Nj Vi Vh
      have xZ:al (VF=(S1.put y1 (n+1),true,true)):=(by
       rw [KW.o]
       unfold Sv.fI
       simp only [Mb.o]
       rw [if_neg (by unfold Sv.val;rw [Gg.o];omega),if_neg (by rw [xH.o];simp),if_neg (by unfold Sv.val;rw [Gg.o];omega)]:VF=(S1.put y1 (n+1),true,true))
      have hz:w.heap.size≤w4.heap.size:=aF G3.o.size fM.o.size
      have hE:L.ext L5 w:=by
       refine ⟨uI.1.trans G2.o.1,uI.2.1.trans G2.o.2.1,fun k hk e=>G2.o.2.2 k hk ?_⟩
       have :=uI.2.2 k (aK hk (aF hz aH.size)) (e.trans G2.o.2.1.symm)
       exact this.trans G2.o.2.1
      have hF:Fr (L.own w) w w5:=aQ.aR G2.o G3.o (((fM.o.aj aH).mono (fun k hk=>by cases hk)).trans eu (fun k hk=>by
       rw [aQ.bQ] at hk
       rcases bK k W1.heap.size with hl |hl
       ·exact .inl (aQ.bQ.2 ⟨hl,hk.2⟩)
       ·exact .inr hl))
      have FF:=ae (mF.o _ true true xZ.o w5 L5 h5 hE hF)
      go_wp2
      go_ret2
      exact FF.o
    ·have xZ:al (VF=((S1.di n).1,false,true)):=(by
      rw [KW.o]
      unfold Sv.fI
      simp only [Mb.o]
      rw [if_neg (by unfold Sv.val;rw [Gg.o];omega),if_pos hq]:VF=((S1.di n).1,false,true))
     have hz:w.heap.size≤w2.heap.size:=aF G3.o.size bl.o.size
     have hE:L.ext L2 w:=by
      refine ⟨jp.1.trans G2.o.1,jp.2.1.trans G2.o.2.1,fun k hk e=>G2.o.2.2 k hk ?_⟩
      have :=jp.2.2 k (aK hk hz) (e.trans G2.o.2.1.symm)
      exact this.trans G2.o.2.1
     have hF:Fr (L.own w) w w3:=aQ.aR G2.o G3.o ((bl.o.mono (fun k hk=>by cases hk)).trans bZ (fun k hk=>by
      rw [aQ.bQ] at hk
      rcases bK k W1.heap.size with hl |hl
      ·exact .inl (aQ.bQ.2 ⟨hl,hk.2⟩)
      ·exact .inr hl))
     have FF:=ae (mF.o _ false true xZ.o w3 L2 h2 hE hF)
     clear hq h2 jp bZ
     go_wp2
     go_ret2
     exact FF.o
theorem pz (w:World) (ty:TypeId) (g c:Nat) (zs:List Int) (dA:Ints w (some ⟨g,0,none⟩) c zs) (j:Nat) (ad:Addr) (c':Nat) (ys:List Int) (hr:∀k:Nat,k<ys.length→w.cell? (ad.add k)=some (.int .i64 ys[k]!)) (hj:j+ys.length≤zs.length):
  ∃w',(Builtin.append_ #[22,22] ty #[.slice (some ⟨g,0,none⟩) j c, .slice (some ad) ys.length c']).run Tryz.prog w= .ok (.slice (some ⟨g,0,none⟩) (j+ys.length) c) w'∧
   Ints w' (some ⟨g,0,none⟩) c (zs.take j++ys++zs.drop (j+ys.length))∧Fr [g] w w':=by
 obtain ⟨i0,hi,vG,nc,A8⟩:=info_parts kc
 rcases dA.2 with ⟨h1,_⟩ |⟨g',cap,cur,hv,hb,hg,hn,hm,hs,ht⟩
 ·simp at h1
 ·simp only [Value.slice.injEq,Option.some.injEq,Addr.mk.injEq,true_and,and_true] at hv
  obtain ⟨rfl,rfl⟩:=hv
  have nq:cur.size=c:=by simpa using hs
  have rR:zs.length≤c:=by simpa using hn
  have gU:=run_append_room (P:=Tryz.prog) w 22 ty 3 i0 Tryz.underlying22 hi g j c cur hg ad ys.length c' (ys.map (Value.int .i64)) (by rw [nc];simp) (fun k u hu=>by
   simp only [aO,Option.map_eq_some_iff] at hu
   obtain ⟨y,hy,rfl⟩:=hu
   have hk:=(gK.1 hy).1
   have :=hr k hk
   rw [aa,hy] at this
   exact this) (by simp [Value.oneCell']) (by omega) (by rw [nc];simp;omega)
  have y8:(cur.toList.take j++ys.map (Value.int .i64)++cur.toList.drop (j+ys.length)).toArray.size=c:=by
   simp only [List.size_toArray,ai,aV,iX,aq,Array.length_toList]
   omega
  rw [nc] at gU
  simp only [mz,aq] at gU
  refine ⟨_,gU,⟨by simp, .inr ⟨g,c,_,?_,hb,setRow_heap w g cur _ 3 _ hg,?_,hm,?_,?_⟩⟩,⟨rfl,rfl,rfl,by simp,fun k _ hk=>setRow_other w g k _ (fun e=>hk (by simp [e]))⟩⟩
  ·rfl
  ·simp only [ai,aV,iX]
   omega
  ·rw [mz];exact y8
  ·simp only [mz] at ht⊢
   have hlen:(zs.take j++ys++zs.drop (j+ys.length)).length=zs.length:=by
    simp only [ai,aV,iX]
    omega
   rw [hlen,bJ,bJ,List.map_take,List.map_drop,←ht]
   have e1:(cur.toList.take zs.length).take j=cur.toList.take j:=by rw [List.take_take,Nat.min_eq_left (by omega)]
   rw [e1]
   have e2:(cur.toList.take zs.length).drop (j+ys.length)=(cur.toList.drop (j+ys.length)).take (zs.length-(j+ys.length)):=by rw [List.drop_take]
   rw [e2]
   have RF:(cur.toList.take j).length=j:=by rw [aV,Array.length_toList];omega
   have hL:(cur.toList.take j++ys.map (Value.int .i64)).length=j+ys.length:=by rw [ai,RF,aq]
   have hT:(cur.toList.take j++ys.map (Value.int .i64)).take zs.length=cur.toList.take j++ys.map (Value.int .i64):=dn (by rw [hL];exact hj)
   rw [List.take_append,hL,hT]
theorem kY (w:World) {ops:Array Oper} {rest:List Oper} {o:Oper} {a:Act} {Q:Exit→Act→World→Prop} (ou:o.guard=none) (s x:Operand)
  (ho:o.op= .call { callee:= .builtin .append,args:=#[s,x],argTypes:=#[22,22] }) (g c j:Nat) (zs:List Int) (hs:a.eval s= .slice (some ⟨g,0,none⟩) j c) (dA:Ints w (some ⟨g,0,none⟩) c zs)
  (ad:Addr) (c':Nat) (y:Int) (hx:a.eval x= .slice (some ad) 1 c') (hy:w.cell? ad=some (.int .i64 y)) (hj:j<zs.length)
  (h:∀w',Ints w' (some ⟨g,0,none⟩) c (zs.take j++[y]++zs.drop (j+1))→Fr [g] w w'→wpList Tryz.prog ops Q rest (a.put o.dst (.slice (some ⟨g,0,none⟩) (j+1) c)) w'):
  wpList Tryz.prog ops Q (o::rest) a w:=by
 refine wpList_plain ou fun K hK=> ?_
 obtain ⟨w',hr,h2,h3⟩:=pz w o.type g c zs dA j ad c' [y] (fun k hk=>by
  simp at hk
  subst hk
  rw [show ad.add 0=ad from if_pos rfl]
  exact hy) (by simp;omega)
 unfold Oper.wp execOp
 simp only [bF] at hr h2
 simp only [ho,resolve,invoke,builtin,Sem.run_bind,Sem.run_pure,Result.andThen_ok,List.map_toArray,cM,dU,hs,hx,hr]
 exact hK _ _ (h w' h2 h3)
theorem nT {w:World} {ops:Array Oper} {o:Oper} {a:Act} {K:Act→World→Prop} {Q:Exit→Act→World→Prop} {E:Prop} (ou:o.guard=none) (s x:Operand)
  (ho:o.op= .call { callee:= .builtin .append,args:=#[s,x],argTypes:=#[22,22] }) (g c j:Nat) (zs:List Int) (hs:a.eval s= .slice (some ⟨g,0,none⟩) j c) (dA:Ints w (some ⟨g,0,none⟩) c zs)
  (ad:Addr) (m c':Nat) (ys:List Int) (hm:ys.length=m) (hx:a.eval x= .slice (some ad) m c') (hr:∀k:Nat,k<ys.length→w.cell? (ad.add k)=some (.int .i64 ys[k]!)) (hj:j+ys.length≤zs.length)
  (h:∀w',Ints w' (some ⟨g,0,none⟩) c (zs.take j++ys++zs.drop (j+ys.length))→Fr [g] w w'→K (a.put o.dst (.slice (some ⟨g,0,none⟩) (j+m) c)) w'):
  if Region.wanted o (yielded ops a.tmps)=true then Oper.wp Tryz.prog o a w K Q else E:=by
 have hw:Region.wanted o (yielded ops a.tmps)=true:=by simp [Region.wanted,ou]
 rw [if_pos hw]
 subst hm
 obtain ⟨w',gU,h2,h3⟩:=pz w o.type g c zs dA j ad c' ys hr hj
 unfold Oper.wp execOp
 simp only [ho,resolve,invoke,builtin,Sem.run_bind,Sem.run_pure,Result.andThen_ok,List.map_toArray,cM,dU,hs,hx,gU]
 exact h w' h2 h3
theorem lW {w:World} {ops:Array Oper} {o:Oper} {a:Act} {K:Act→World→Prop} {Q:Exit→Act→World→Prop} {E:Prop} (ou:o.guard=none) (s x:Operand)
  (ho:o.op= .call { callee:= .builtin .append,args:=#[s,x],argTypes:=#[22,22] }) (A:Option Addr) (c:Nat) (xs:List Int) (n:Nat) (hs:a.eval s= .slice A n c) (hn:n=xs.length) (dA:Ints w A c xs)
  (B:Option Addr) (m c':Nat) (ys:List Int) (hm:ys.length=m) (hx:a.eval x= .slice B m c') (hr:Ints w B c' ys) (hlen:xs.length+ys.length≤17592186044416)
  (h:∀A' cap w',Ints w' A' cap (xs++ys)→Fr (ap A) w w'→(∀k,k∈ap A'→k∈ap A∨k=w.heap.size)→w.heap.size≤w'.heap.size→K (a.put o.dst (.slice A' (n+m) cap)) w'):
  if Region.wanted o (yielded ops a.tmps)=true then Oper.wp Tryz.prog o a w K Q else E:=by
 have hw:Region.wanted o (yielded ops a.tmps)=true:=by simp [Region.wanted,ou]
 rw [if_pos hw]
 subst hn hm
 rcases hr.form with ⟨rfl,rfl,rfl⟩ |⟨g,rfl,hg,_,_⟩
 ·obtain ⟨i0,hi,vG,nc,A8⟩:=info_parts kc
  have hc:xs.length≤c:=by
   rcases dA.form with ⟨_,_,rfl⟩ |⟨_,_,_,h1,_⟩
   ·simp
   ·exact h1
  have gU:(Builtin.append_ #[22,22] o.type #[.slice A xs.length c, .slice none 0 0]).run Tryz.prog w= .ok (.slice A xs.length c) w:=by
   cases A<;>simp [Builtin.append_,run_underlying Tryz.underlying22,sizeOf,typeInfo,hi,Builtin.lenOf,hc,Builtin.firstCells,loadCells,storeCells]
  unfold Oper.wp execOp
  simp only [List.length_nil] at hx
  simp only [ho,resolve,invoke,builtin,Sem.run_bind,Sem.run_pure,Result.andThen_ok,List.map_toArray,cM,dU,hs,hx,gU]
  have :=h A c w (by rw [bU];exact dA) (Fr.refl _ _) (fun k hk=> .inl hk) (au _)
  rw [List.length_nil,Nat.add_zero] at this
  exact this
 ·have j3:=fun j (hj:j<ys.length)=>hr.cell hj
  obtain ⟨A',cap,w',gU,h2,h3,h4,h5,h6,h7⟩:=fd w 22 o.type 3 (.int .i64 0) 1 8 Tryz.underlying22 kc rfl (by decide) A c xs.length (xs.map (Value.int .i64)) dA ⟨g,0,none⟩ ys.length c' (ys.map (Value.int .i64)) (by simp) (fun j u hu=>by
   simp only [aO,Option.map_eq_some_iff] at hu
   obtain ⟨y,hy,rfl⟩:=hu
   have hj:=(gK.1 hy).1
   have :=j3 j hj
   rw [aa,hy] at this
   rw [dJ,cS]
   exact this) (by simp [Value.oneCell']) (by unfold maxLen;omega) (by omega)
  unfold Oper.wp execOp
  simp only [ho,resolve,invoke,builtin,Sem.run_bind,Sem.run_pure,Result.andThen_ok,List.map_toArray,cM,dU,hs,hx,gU]
  refine h A' cap w' ?_ h3 h4 h5
  unfold Ints
  rw [ai,bJ]
  exact h2
def aQ.has (L:aQ) (k:Nat):Prop:=k=L.a∨k∈L.tL.fp∨k∈L.hL.fp∨k∈ap L.cA∨k∈ap L.wA∨k∈ap L.pA∨k∈ap L.mA∨k∈ap L.oA∨(∃n:Nat,n<L.cs.length∧k∈ap (L.cs[n]!).A)∨(∃c:Nat,c<L.ws.length∧k∈ap (L.ws[c]!).A)
theorem bf.jq {w:World} {L:aQ} {S:Sv} (h:bf w L S) {k:Nat} (hk:L.has k):(L.cQ k).1=L.id:=by
 rcases hk with rfl |hk |hk |hk |hk |hk |hk |hk |⟨n,hn,hk⟩ |⟨c,hc,hk⟩
 ·rw [h.t0]
 ·rw [h.t1 k hk]
 ·rw [h.t2 k hk]
 ·rw [h.t3 k hk]
 ·rw [h.t4 k hk]
 ·rw [h.t5 k hk]
 ·rw [h.t6 k hk]
 ·rw [h.t7 k hk]
 ·rw [h.t8 n hn k hk]
 ·rw [h.t9 c hc k hk]
theorem bf.GY {w:World} {L:aQ} {S:Sv} (h:bf w L S) (Zj:Nat→Nat×Nat×Nat) (hh:∀k,L.has k→Zj k=L.cQ k):bf w { L with cQ:=Zj } S:=by
 refine ⟨h.obj,h.tr,h.hp,h.io,h.AA,h.Ay,h.ux,h.rws,h.uv,h.xv,h.tO,h.pr,h.rr,?_,fun k hk=> ?_,fun k hk=> ?_,fun k hk=> ?_,fun k hk=> ?_,fun k hk=> ?_,fun k hk=> ?_,fun k hk=> ?_,fun n hn k hk=> ?_,fun n hn k hk=> ?_⟩
 ·exact (hh _ (.inl rfl)).trans h.t0
 ·exact (hh _ (.inr (.inl hk))).trans (h.t1 k hk)
 ·exact (hh _ (.inr (.inr (.inl hk)))).trans (h.t2 k hk)
 ·exact (hh _ (.inr (.inr (.inr (.inl hk))))).trans (h.t3 k hk)
 ·exact (hh _ (.inr (.inr (.inr (.inr (.inl hk)))))).trans (h.t4 k hk)
 ·exact (hh _ (.inr (.inr (.inr (.inr (.inr (.inl hk))))))).trans (h.t5 k hk)
 ·exact (hh _ (.inr (.inr (.inr (.inr (.inr (.inr (.inl hk)))))))).trans (h.t6 k hk)
 ·exact (hh _ (.inr (.inr (.inr (.inr (.inr (.inr (.inr (.inl hk))))))))).trans (h.t7 k hk)
 ·exact (hh _ (.inr (.inr (.inr (.inr (.inr (.inr (.inr (.inr (.inl ⟨n,hn,hk⟩)))))))))).trans (h.t8 n hn k hk)
 ·exact (hh _ (.inr (.inr (.inr (.inr (.inr (.inr (.inr (.inr (.inr ⟨n,hn,hk⟩)))))))))).trans (h.t9 n hn k hk)
theorem bf.take {w:World} {L:aQ} {S:Sv} (h:bf w L S) {c:Nat} (hc:c<L.ws.length):
  ∃gw,L.wA=some ⟨gw,0,none⟩∧gw<w.heap.size∧w.frozen? ⟨gw,c,none⟩=false∧∃L',bf (w.setCell ⟨gw,c,none⟩ (.slice none 0 0)) L' (S.cd c [])∧L.ext L' w∧Fr (L.own w) w (w.setCell ⟨gw,c,none⟩ (.slice none 0 0))∧
   Ints (w.setCell ⟨gw,c,none⟩ (.slice none 0 0)) (L.ws[c]!).A (L.ws[c]!).c (bR (L.ws[c]!).l)∧∀k,k∈ap (L.ws[c]!).A→(L'.cQ k).1≠L'.id∧k∈L.own w:=by
 have fJ:=h.rr c hc
 obtain ⟨gw,h1,h2,h3,L1,h4,h5,h6,h7⟩:=h.cd hc (A':=none) (c':=0) (l':=[]) (F:=[]) (w1:=w) (Ints.nil w) (Fr.refl _ _) (fun k hk=>by cases hk) (fun k hk=>by simp [ap] at hk)
 refine ⟨gw,h1,h2,h3,?_⟩
 simp only [List.length_nil] at h4 h6
 have kG:=h.t9 c hc
 have oq:∀k,k∈ap (L.ws[c]!).A→¬L1.has k:=fun k hk hh=>by
  have e1:=kG k hk
  subst h7
  rcases hh with rfl |hh |hh |hh |hh |hh |hh |hh |⟨n,hn,hh⟩ |⟨c',XY,hh⟩
  ·rw [h.t0] at e1;simp at e1
  ·rw [h.t1 k hh] at e1;simp at e1
  ·rw [h.t2 k hh] at e1;simp at e1
  ·rw [h.t3 k hh] at e1;simp at e1
  ·rw [h.t4 k hh] at e1;simp at e1
  ·rw [h.t5 k hh] at e1;simp at e1
  ·rw [h.t6 k hh] at e1;simp at e1
  ·rw [h.t7 k hh] at e1;simp at e1
  ·rw [h.t8 n hn k hh] at e1;simp at e1
  ·simp only [aw] at XY
   simp only at hh
   rw [dT] at hh
   by_cases e:c=c'
   ·rw [if_pos ⟨e,hc⟩] at hh
    simp [ap] at hh
   ·rw [if_neg (fun x=>e x.1)] at hh
    rw [h.t9 c' XY k hh] at e1
    simp at e1
    exact e e1.symm
 have hid:L1.id=L.id:=h5.2.1
 refine ⟨{ L1 with cQ:=fun k=>if k∈ap (L.ws[c]!).A then (L1.id+1,0,0) else L1.cQ k },h4.GY _ (fun k hk=>if_neg (fun hm=>oq k hm hk)),⟨h5.1,hid,fun k hk e=> ?_⟩,h6,?_,fun k hk=>⟨?_,?_⟩⟩
 ·simp only at e
  split at e
  ·rw [hid] at e;simp at e
  ·exact h5.2.2 k hk e
 ·refine fJ.gh (p:=⟨gw,c,none⟩) (fun hm=> ?_) _
  have e1:=kG gw hm
  rw [h.t4 gw (by rw [h1];simp [ap])] at e1
  simp at e1
 ·simp only
  rw [if_pos hk]
  simp
 ·rw [aQ.bQ]
  exact ⟨fJ.lt k hk,by rw [kG k hk]⟩
theorem bf.R9 {w w1:World} {L:aQ} {S:Sv} (h:bf w L S) {c:Nat} (hc:c<L.ws.length) {A0 A':Option Addr} {c':Nat} {l':List Nat} (Wr:∀k,k∈ap A0→(L.cQ k).1≠L.id) (hi:Ints w1 A' c' (bR l'))
  (hf:Fr (ap A0) w w1) (hA:∀k,k∈ap A'→k∈ap A0∨w.heap.size≤k):
  ∃gw,L.wA=some ⟨gw,0,none⟩∧w1.frozen? ⟨gw,c,none⟩=false∧∃L',bf (w1.setCell ⟨gw,c,none⟩ (.slice A' l'.length c')) L' (S.cd c l')∧L'.a=L.a∧L'.id=L.id∧(∀k,k<w.heap.size→(L'.cQ k).1=L.id→(L.cQ k).1=L.id∨k∈ap A0)∧
   Fr (ap A0++L.own w) w (w1.setCell ⟨gw,c,none⟩ (.slice A' l'.length c')):=by
 have oq:∀k,L.has k→k∉ap A0:=fun k hk hm=>Wr k hm (h.jq hk)
 have h2:=h.GY (fun k=>if k∈ap A0 then (L.id,9,c) else L.cQ k) (fun k hk=>if_neg (oq k hk))
 obtain ⟨gw,g1,g2,g3,L',g4,g5,g6,g7⟩:=h2.cd (c:=c) hc (l':=l') hi hf (fun k hk _=>if_pos hk) (fun k hk=>by
  rcases hA k hk with h3 |h3
  ·rcases bK k w.heap.size with hl |hl
   ·exact .inl ⟨hl,if_pos h3⟩
   ·exact .inr hl
  ·exact .inr h3)
 refine ⟨gw,g1,g3,L',g4,g5.1,g5.2.1,fun k hk e=> ?_,g6.mono (fun k hk=> ?_)⟩
 ·have :=g5.2.2 k hk e
  simp only at this
  by_cases hm:k∈ap A0
  ·exact .inr hm
  ·rw [if_neg hm] at this
   exact .inl this
 ·rw [aQ.bQ] at hk
  left
  by_cases hm:k∈ap A0
  ·exact ak _ hm
  ·have e:=hk.2
   simp only [if_neg hm] at e
   exact aM _ (aQ.bQ.2 ⟨hk.1,e⟩)
namespace Sv
theorem Ok.nP (off:Int):∀(ws keep:List Nat) (S:Sv),S.Ok (keep.length+ws.length)→(∀n∈ws,n<S.list.length)→(∀n∈keep,n<S.list.length)→aW off<S.watch.length→
  (bS off ws keep S).1.Ok 0∧(bS off ws keep S).1.vars=S.vars∧(bS off ws keep S).1.head=S.head∧(bS off ws keep S).1.list.length=S.list.length∧∀n,(bS off ws keep S).2=some n→n<S.list.length
 |[],keep,S,ok,_,hk,hc=>by
  simp only [bS]
  refine ⟨ok.cd hc (fun n hn=> ?_) (by simp;omega),rfl,rfl,rfl,fun n h=>by cases h⟩
  rcases ag.1 hn with h |h
  ·exact hk n h
  ·exact ok.wb _ n h
 |n::r,keep,S,ok,hw,hk,hc=>by
  simp only [bS]
  have hn:=hw n (by simp)
  obtain ⟨v1,v2,v3,v4,v5⟩:=(ok.less (m':=keep.length+r.length+1) (by simp;omega)).visit hn off
  generalize S.cY n off=q at *
  have JO:∀j∈(if q.2.1=true then keep++[n] else keep),j<q.1.list.length:=fun j hj=>by
   rw [v3]
   split at hj
   ·rcases ag.1 hj with h |h
    ·exact hk j h
    ·simp at h;omega
   ·exact hk j hj
  have sl:q.1.Ok ((if q.2.1=true then keep++[n] else keep).length+r.length):=by
   split
   ·rename_i h
    rw [if_pos h] at v1
    exact v1.less (by simp;omega)
   ·rename_i h
    rw [if_neg h] at v1
    exact v1
  split
  ·have ih:=Ok.nP off r _ q.1 sl (fun j hj=>by rw [v3];exact hw j (by simp [hj])) JO (by rw [v5];exact hc)
   exact ⟨ih.1,by rw [ih.2.1,v2],by rw [ih.2.2.1,v4],by rw [ih.2.2.2.1,v3],fun j hj=>by have :=ih.2.2.2.2 j hj;omega⟩
  ·refine ⟨sl.cd (by rw [v5];exact hc) (fun j hj=> ?_) (by simp <;>omega),v2,v4,v3,fun j hj=>by simp at hj;omega⟩
   rcases ag.1 hj with h |h
   ·exact JO j h
   ·rw [v3];exact hw j (by simp [h])
theorem vg (S:Sv) (x r:Int):S.T.lits.length≤(S.put x r).T.lits.length:=by
 unfold put
 simp only
 split
 ·simp [Tr.n8]
 ·exact au _
theorem Ed (S:Sv) (n:Nat) (off:Int):S.T.lits.length≤(S.cY n off).1.T.lits.length:=by
 unfold cY
 split
 ·exact au _
 ·have e:=(nR S n off).1
  rw [←e]
  generalize S.cG n off=S1
  unfold fI
  simp only
  split
  ·exact au _
  ·split
   ·rw [(p8 S1 n).1];exact au _
   ·split
    ·exact au _
    ·exact vg _ _ _
theorem k9 (off:Int):∀(ws keep:List Nat) (S:Sv),S.T.lits.length≤(bS off ws keep S).1.T.lits.length
 |[],keep,S=>au _
 |n::r,keep,S=>by
  simp only [bS]
  have h1:=Ed S n off
  split
  ·exact aF h1 (k9 off r _ _)
  ·exact h1
end Sv
theorem aN (w:World) (o:Obj):Fr [] w (w.alloc o):=(Fr.refl [] w).alloc o
theorem Ints.dX {w w':World} {A:Option Addr} {c:Nat} {xs:List Int} (h:Ints w A c xs) (hf:Fr [] w w'):Ints w' A c xs:=h.fr hf (fun k hk hm=>by cases hm)
def wh:Option Nat→Int
 |some n=>n
 |none=> -1
theorem bf.ut {w:World} {L:aQ} {S:Sv} (h:bf w L S) (x:Nat):bf (w.setCell ⟨L.a,8,none⟩ (.int .i64 x)) L { S with head:=x }∧Fr (L.own w) w (w.setCell ⟨L.a,8,none⟩ (.int .i64 x)):=by
 have hf:Fr [L.a] w (w.setCell ⟨L.a,8,none⟩ (.int .i64 x)):=(Fr.refl _ w).setCell (.inl (by simp)) _
 obtain ⟨h1,_,h3⟩:=h.top (L':=L) (S':={ S with head:=x }) hf (by have :=h.obj.eo 8 (.int .i64 x);simpa [oQ] using this) ⟨rfl,rfl,rfl,rfl,rfl,rfl,rfl,rfl,rfl,rfl,rfl,rfl,rfl,rfl,rfl,rfl,rfl⟩ ⟨rfl,rfl,rfl,rfl,rfl,rfl,rfl⟩
 exact ⟨h1,h3⟩
theorem GW {keep l0:List Nat} {i:Nat} (h:keep.length≤i) (hi:i<l0.length):(keep++l0.drop keep.length)[i]! =l0[i]! :=by
 simp only [aa]
 rw [gm h,List.getElem?_drop,Nat.add_sub_cancel' h]
theorem oR {keep l0:List Nat} (h:keep.length≤l0.length):(keep++l0.drop keep.length).length=l0.length:=by simp;omega
theorem GV {keep l0:List Nat} (n:Nat) (h:keep.length<l0.length):(bR (keep++l0.drop keep.length)).take keep.length++[(n:Int)]++(bR (keep++l0.drop keep.length)).drop (keep.length+1)=bR ((keep++[n])++l0.drop (keep++[n]).length):=by
 simp only [bR,bJ,List.map_drop,ai,bF,cM,dU]
 congr 1
 ·congr 1
  rw [mB (by simp)]
  exact dn (by simp)
 ·rw [List.drop_append,List.drop_of_length_le (by simp),List.nil_append,List.drop_drop,aq]
  congr 1
  omega
theorem uw {keep l0:List Nat}:(bR (keep++l0.drop keep.length)).take keep.length=bR keep:=by
 simp only [bR,bJ]
 rw [mB (by simp)]
 exact dn (by simp)
theorem Mk (S:Sv) (n:Nat) (off:Int):(S.cY n off).2.1=false→(S.cY n off).2.2=true:=by
 unfold Sv.cY Sv.fI
 split
 ·simp
 ·simp only
  split
  ·simp
  ·split
   ·simp
   ·split<;>simp
theorem mU {S:Sv} {f:Nat} (h:¬S.head<S.T.lits.length):Sv.dd f S=(S,none):=by
 cases f with
 |zero=>rfl
 |succ f=>simp only [Sv.dd];rw [if_neg h]
theorem Av (w:World) (L:aQ) (S:Sv) (h:bf w L S) (ok:S.Ok 0):
  Calls Tryz.prog 107 #[.pointer (some ⟨L.a,0,none⟩)] w (oF (.int .i64 (wh S.follow.2)) S.follow.1 L w):=by
 obtain ⟨dC,fh⟩:∃dC,S.follow=dC:=⟨_,rfl⟩
 have eP:al (Sv.dd (S.vars+1) S=dC):=fh
 rw [fh]
 have mF:al (∀(S':Sv) (r:Option Nat),dC=(S',r)→∀W L',bf W L' S'→L.ext L' w→Fr (L.own w) w W→oF (.int .i64 (wh dC.2)) dC.1 L w (.returned (.int .i64 (wh r))) W):=fun S' r e W L' g1 g2 g3=>by
  subst e
  exact ⟨rfl,L',g1,g2,g3⟩
 have HH:=ae h
 have kM:=ae ok
 have Ye:al (w.heap.size=w.heap.size):=rfl
 clear fh h ok
 go_enter Tryz.func107,Tryz.ntmps107
 go_wp2_with fail
 go_loopg [2] (S.vars+1) (fun g x2 wr=>∃(S1:Sv) (L1:aQ),al (Sv.dd g S1=dC)∧S1.vars+1≤g+S1.head∧al (S1.Ok 0)∧al (bf wr L1 S1)∧al (L.ext L1 w)∧al (Fr (L.own w) w wr))
 case atStart=>exact ⟨S,L,eP.o,by omega,kM.o,HH.o,aQ.co _ _,Fr.refl _ _⟩
 case round=>
  obtain ⟨S1,L1,uR,hfu,j4,H1,eG,dy⟩:=hrel
  have Yl:=ae hfu
  have nF:=j4.o.vl
  have LO:=j4.o.hd
  have lI:S1.T.lits.length≤S1.vars:=by
   obtain ⟨R,hR⟩:=j4.o.tr
   have :=hR.fQ
   rw [hR.lits,aq]
   exact this
  have lO:L1.a=L.a:=eG.o.1
  obtain ⟨c0,-,-,-,c4,-,-,-,c8,-⟩:=H1.o.cells
  rw [lO] at c0 c4 c8
  have uT:=ae c0
  have Ln:=ae c4
  have HC8:=ae c8
  have Xu:=ae lO
  have e0:=Ext.cell c0
  have e8:=Ext.cell c8
  have KL:=ae (fun u:Ext wr=>ko u.v L1.tL S1.T (H1.o.tr.fr u.fr (by simp)))
  clear lO hfu c4
  by_cases bM:S1.head<S1.T.lits.length
  ·obtain ⟨f,cU⟩:∃f,gk=f+1:=⟨gk-1,by have :=Yl.o;omega⟩
   have hd:decide ((S1.head:Int)<(S1.T.lits.length:Int))=true:=decide_eq_true (by omega)
   go_wp2
   refine ax ?_
   repeat (go_big_quiet_step (exact bk (KL.o _)))
   refine gO ?_
   intro w2 bl
   clear e0 e8 c0 c8 KL hd
   obtain ⟨x,hx⟩:∃x,S1.T.lits[S1.head]! =x:=⟨_,rfl⟩
   have vV:S1.T.X9 (S1.head:Int)=x:=by
    unfold Tr.X9
    rw [if_pos (by omega),Int.toNat_natCast]
    exact hx
   have xw: -(S1.vars:Int)≤x∧x≤S1.vars∧x≠0:=by
    obtain ⟨R,hR⟩:=j4.o.tr
    have hm:x∈S1.T.lits:=by rw [←hx];exact get_mem bM
    rw [hR.lits,az] at hm
    obtain ⟨e,he,rfl⟩:=hm
    have hb:=hR.bound e he
    unfold tv at hb
    split at hb
    ·omega
    ·split at hb<;>omega
   have HX:=ae hx
   have KA:=ae (fun u:Ext w2=>ku u.v L1.tL S1.T (H1.o.tr.fr (bl.o.aj u.fr) (by simp)) (S1.head:Int))
   rw [vV] at KA
   have c0:=bl.o.aT uT.o
   have c8:=bl.o.aT HC8.o
   have e0:=Ext.cell c0
   have e8:=Ext.cell c8
   have dO:IntKind.i64.wrap (-x)= -x:=IntWalk.i64_in _ (by omega)
   clear vV hx
   go_wp2
   refine ax ?_
   repeat (go_big_quiet_step (exact bk (KA.o _)))
   refine gO ?_
   intro w3 tF
   obtain ⟨off,tT⟩:∃off,-x=off:=⟨_,rfl⟩
   have hor: -(S1.vars:Int)≤off∧off≤S1.vars:=by omega
   have ahu:=ae tT
   rw [tT]
   clear e0 e8 c0 c8 KA dO tT xw
   obtain ⟨cy,JY⟩:∃cy,aW off=cy:=⟨_,rfl⟩
   have KC:=ae (fun W=>mW W off (by omega) (by omega))
   simp only [JY] at KC
   have qf:cy<L1.ws.length:=by
    rw [H1.o.qX,j4.o.wl,←JY]
    exact gH hor.1 hor.2
   have Qi:=ae JY
   have cZ:=ae (bl.o.aj tF.o)
   clear bl tF JY
   obtain ⟨gw,tW,sw,fw⟩:=H1.o.UI qf
   have Lz:=H1.o.rX qf
   have HTK:=ae (fun W hW=>(H1.o.keep (w':=W) hW).take qf)
   obtain ⟨⟨A0,c0,l0⟩,uE⟩:∃x,L1.ws[cy]! =x:=⟨_,rfl⟩
   rw [uE] at sw Lz HTK
   simp only at sw Lz HTK
   have Uk:=ae Lz
   have sO:=ae sw
   have uo:=ae fw
   have c4:=cZ.o.aT Ln.o
   rw [tW] at c4
   have s4:=cZ.o.aT sw
   have e4:=Ext.cell c4
   have es:=Ext.cell s4
   have DL:=ae qf
   have Xo:=ae tW
   clear uE Lz sw fw tW
   go_wp2
   refine ax ?_
   repeat (go_big_quiet_step (exact bk (KC.o _)))
   refine gO ?_
   intro w4 cv
   clear c4 s4 e4 es
   have fM:=ae (cZ.o.aj cv.o)
   have hc4:=Ln.o
   rw [Xo.o] at hc4
   have acA:=ae (fM.o.aT hc4)
   clear cZ cv hc4
   go_upto_region 5 with fail
   refine wp_region_noPanic ?_
   refine bp (fun w':World=>Fr [] w4 w') 7 (by kernel_rfl) ((Fr.refl [] w4).drew) (fun db=> ?_)
   refine pf 5 [(0,[]),(1,[]),(2,[]),(3,[3,7]),(4,[])] db (fun w cm=>cm.aT acA.o) ?_;intro db
   refine R2 5 db fun K hK aH=> ?_
   (go_simp;refine (KC.o _).mono ?_;rintro e w5 ⟨rfl,rfl⟩;dsimp only)
   refine hK.out _ _ (.inr ?_) (fun LU=> ?_)
   ·exact aH
   clear hK K
   try simp only [Act.put,q5,q6,q7]
   refine TB 1 [(6,[])] LU ?_;intro LU
   refine R2 7 LU fun K hK aH=> ?_
   (have sb:=(fM.o.aj aH).aT sO.o;have fb:World.frozen? _ _=_:=(World.frozen?_of_block ((fM.o.aj aH).block gw (bE sO.o) (by simp))).trans uo.o;go_simp)
   refine hK.out _ _ (.inl rfl) (fun Wi=> ?_)
   clear hK K
   try simp only [Act.put,q5,q6,q7]
   refine fo ?_
   have ht:=HTK.o w4 fM.o
   obtain ⟨FM,eY,_,_,L5,h5',uI,aaI,NX,hn5⟩:=ht
   obtain rfl :gw=FM:=by rw [Xo.o] at eY;simpa using eY
   obtain ⟨W5,R0⟩:∃W,(w4.setCell ⟨gw,cy,none⟩ (.slice none 0 0)).drew=W:=⟨_,rfl⟩
   have h5:bf W5 L5 (S1.cd cy []):=R0▸h5'.keep (Fr.refl [] _).drew
   have eu:Fr (L1.own w4) w4 W5:=R0▸aaI.drew
   have uH:Ints W5 A0 c0 (bR l0):=R0▸NX.drew
   rw [R0]
   clear h5' aaI NX
   have nc:wr.heap.size≤w4.heap.size:=fM.o.size
   have hE5:L.ext L5 w:=aQ.aX eG.o (⟨uI.1,uI.2.1,fun k hk e=>uI.2.2 k (aK hk nc) e⟩:L1.ext L5 wr) dy.o.size
   have hF5:Fr (L.own w) w W5:=aQ.aR eG.o dy.o ((fM.o.mono (fun k hk=>by cases hk)).trans eu (fun k hk=>by
    rw [aQ.bQ] at hk
    rcases bK k wr.heap.size with hl |hl
    ·exact .inl (aQ.bQ.2 ⟨hl,hk.2⟩)
    ·exact .inr hl))
   have TR:∀k,k∈ap A0→(L5.cQ k).1≠L5.id:=fun k hk=>(hn5 k hk).1
   have XW:∀k,k∈ap A0→k∈L.own w∨w.heap.size≤k:=fun k hk=>by
    have e1:=(hn5 k hk).2
    rw [aQ.bQ] at e1
    rcases bK k w.heap.size with hl |hl
    ·exact .inl (aQ.bQ.2 ⟨hl,eG.o.2.2 k hl (e1.2.trans eG.o.2.1)⟩)
    ·exact .inr hl
   have Eb:=ae XW
   have uQ:al (Sv.dd f { (Sv.bS off l0 [] (S1.cd cy [])).1 with head:=S1.head+1 }=dC∧(Sv.bS off l0 [] (S1.cd cy [])).2=none∨∃n,(Sv.bS off l0 [] (S1.cd cy [])).2=some n∧dC=((Sv.bS off l0 [] (S1.cd cy [])).1,some n)):=by
    have h1:=uR.o
    rw [cU] at h1
    simp only [Sv.dd] at h1
    rw [if_pos bM,HX.o,ahu.o,Qi.o,Uk.o] at h1
    have ZG:(Sv.bS off l0 [] (S1.cd cy [])).1.head=S1.head:=by
     have o2:(S1.cd cy []).Ok (0+l0.length):=j4.o.cd (by rw [←H1.o.qX];exact DL.o) (fun n hn=>by cases hn) (by rw [Uk.o];simp)
     exact (o2.nP off l0 [] _ (fun n hn=>j4.o.wb cy n (by have :=Uk.o;unfold Sv.fH at this;rw [this];exact hn)) (fun n hn=>by cases hn) (by show aW off<(S1.watch.set _ _).length;rw [aw,←H1.o.qX,Qi.o];exact DL.o)).2.2.1
    cases hv:(Sv.bS off l0 [] (S1.cd cy [])).2 with
    |none=>
     rw [hv] at h1
     simp only [ZG] at h1
     exact .inl ⟨h1,rfl⟩
    |some n=>
     rw [hv] at h1
     exact .inr ⟨n,rfl,h1.symm⟩
   have o2:(S1.cd cy []).Ok l0.length:=j4.o.cd (by rw [←H1.o.qX];exact DL.o) (fun n hn=>by cases hn) (by rw [Uk.o];simp)
   have VW:∀n∈l0,n<S1.list.length:=fun n hn=>j4.o.wb cy n (by have :=Uk.o;unfold Sv.fH at this;rw [this];exact hn)
   have ab5:=ae VW
   have H1L:=ae (H1.o.qX.trans j4.o.wl)
   have ZF:=(o2.less (m':=([]:List Nat).length+l0.length) (by simp)).nP off l0 [] _ VW (fun n hn=>by cases hn) (by show aW off<(S1.watch.set _ _).length;rw [aw,←H1.o.qX,Qi.o];exact DL.o)
   have Gj:=ae ZF
   obtain ⟨VR,hVR⟩:∃VR,Sv.bS off l0 [] (S1.cd cy [])=VR:=⟨_,rfl⟩
   rw [hVR] at uQ Gj
   have WY:=ae hVR
   have sD:=j4.o.ll
   have H5:=ae h5
   have nK:=ae hE5
   have kN:=ae hF5
   have Lf:=ae uH
   have Yj:=ae TR
   have Md:=ae o2
   have abG:al ((S1.cd cy []).watch.length=2*S1.vars+2):=(by show (S1.watch.set _ _).length=_;rw [aw];exact j4.o.wl:(S1.cd cy []).watch.length=2*S1.vars+2)
   have amK:l0.length≤4398046511104:=by have :=j4.o.room cy;have h2:=Uk.o;unfold Sv.fH at h2;rw [h2] at this;exact this
   have anc:l0.length≤c0:=by
    have h2:=uH.form
    have e:=bj l0
    rcases h2 with ⟨_,_,h3⟩ |⟨_,_,_,h3,_⟩
    ·rw [h3] at e
     simp at e
     omega
    ·omega
   clear h5 uI eu uH hn5 hE5 hF5 TR XW o2 VW ZF hVR R0 nc HTK aH eY sO uo Xo acA fM H1 uT Ln HC8
   try clear Wi
   try clear X4
   try clear LU
   have aaE:=Lf.o.form
   rcases aaE with ⟨rfl,rfl,rS⟩ |⟨g0,rfl,am0,-,-⟩
   ·have aaq:l0=[]:=by
     have :=bj l0
     rw [rS] at this
     exact aJ this.symm
    subst aaq
    clear rS
    go_wp2_with fail
    go_loopg [5,56] ([]:List Nat).length (fun g2 x5 x56 wi=>∃(i:Nat) (keep:List Nat) (S2:Sv) (L2:aQ),i+g2=([]:List Nat).length∧keep.length≤i∧x5= .slice none keep.length 0∧x56= .int .i64 i∧al (Sv.bS off (([]:List Nat).drop i) keep S2=VR)∧al (S2.Ok (keep.length+(([]:List Nat).length-i)))∧al (∀n∈keep,n<S1.list.length)∧al (S2.list.length=S1.list.length∧S2.vars=S1.vars∧S2.watch.length=2*S1.vars+2)∧al (bf wi L2 S2)∧al (L.ext L2 w)∧al (Fr (L.own w) w wi)∧al (Ints wi none 0 (bR (keep++([]:List Nat).drop keep.length)))∧al (∀k,k∈ap none→(L2.cQ k).1≠L2.id))
    case atStart=>exact ⟨0,[],S1.cd cy [],L5,by omega,au _,rfl,rfl,WY.o,Md.o.less (by simp),(fun n hn=>by cases hn),⟨rfl,rfl,abG.o⟩,H5.o,nK.o,kN.o,Lf.o,Yj.o⟩
    case round=>
     obtain ⟨i,keep,S2,L2,hi,LM,rfl,rfl,HVS,ul,D9,pR,H2,dx,cH,mw,jN⟩:=hrel
     have HI:=ae hi
     have tp:i≤([]:List Nat).length:=by omega
     clear hi
     by_cases xU:i<([]:List Nat).length
     ·simp at xU
     ·obtain rfl :i=([]:List Nat).length:=by omega
      clear HI
      have oy:cy<L2.ws.length:=by rw [H2.o.qX,pR.o.2.2];have :=DL.o;rw [H1L.o] at this;exact this
      obtain ⟨gw,tW,sw,fw⟩:=H2.o.UI oy
      obtain ⟨-,-,-,-,c4,-⟩:=H2.o.cells
      rw [tW,dx.o.1] at c4
      have DG:al (L.a∉ap none):=fun hm=>jN.o _ hm (H2.o.jq (.inl (by rw [dx.o.1])))
      have pt:al (gw∉ap none):=fun hm=>jN.o _ hm (H2.o.jq (.inr (.inr (.inr (.inr (.inl (by rw [tW];simp [ap])))))))
      have DM:=ae c4
      have mq:=ae sw
      have Lh:=ae fw
      have Lg:=ae tW
      have jT:=HVS.o
      rw [List.drop_length] at jT
      simp only [Sv.bS] at jT
      rw [Qi.o] at jT
      have tR:=H2.o.rX oy
      have Bb:=H2.o.rr cy oy
      have LK:=ul.o.room cy
      have Ny:∀k,k∈ap (L2.ws[cy]!).A→k∉ap none:=fun k hk hm=>jN.o k hm (H2.o.jq (.inr (.inr (.inr (.inr (.inr (.inr (.inr (.inr (.inr ⟨cy,oy,hk⟩))))))))))
      unfold Sv.fH at tR jT
      rw [tR] at LK jT
      obtain ⟨⟨A9,c9,l9⟩,EY⟩:∃x,L2.ws[cy]! =x:=⟨_,rfl⟩
      rw [EY] at sw Bb LK jT Ny
      rw [EY] at mq
      simp only at sw Bb LK jT mq Ny
      have Bn:=ae Bb
      have P7:=ae jT
      have CH:Ints wr none 0 (bR keep):=by
       have :=mw.o.py keep.length
       rw [uw] at this
       exact this
      have Xn:=ae CH
      have N9:cy<L2.ws.length:=oy
      have Ll:=ae N9
      have Qa:al (Sv.dd f { VR.1 with head:=S1.head+1 }=dC):=by
       rcases uQ.o with h1 |⟨n,h1,_⟩
       ·exact h1.1
       ·rw [←P7.o] at h1
        simp at h1
      have afm:keep.length≤4398046511104:=by omega
      clear EY tR Bb jT CH sw fw tW c4 oy
      go_upto_region 17 with fail
      refine wp_region_noPanic ?_
      refine bp (fun w':World=>Fr (ap none) wr w') 17 (by kernel_rfl) ((Fr.refl _ wr).drew) (fun db=> ?_)
      refine pf 11 [(0,[]),(1,[]),(2,[]),(3,[3,17]),(4,[]),(6,[]),(7,[]),(8,[]),(9,[]),(10,[10,17]),(11,[])] db (fun w cm=>And.intro (cm.bD DG.o DM.o) (cm.bD pt.o mq.o)) ?_;intro db
      refine R2 5 db fun K hK aH=> ?_
      (go_simp;refine (KC.o _).mono ?_;rintro e w5 ⟨rfl,rfl⟩;dsimp only)
      refine hK.out _ _ (.inr ?_) (fun jC=> ?_)
      ·first |exact aH.aj gG |exact aH
      clear hK K
      try simp only [Act.put,q5,q6,q7]
      refine R2 12 jC fun K hK aH=> ?_
      (go_simp;refine (KC.o _).mono ?_;rintro e w5 ⟨rfl,rfl⟩;dsimp only)
      refine hK.out _ _ (.inr ?_) (fun qh=> ?_)
      ·first |exact aH.aj gG |exact aH
      clear hK K
      try simp only [Act.put,q5,q6,q7]
      refine pf 2 [(13,[]),(14,[14,17])] qh (fun w cm=>And.intro (cm.bD DG.o DM.o) (cm.bD pt.o mq.o)) ?_;intro qh
      refine R2 15 qh fun K hK aH=> ?_
      (refine lW rfl _ _ rfl none 0 (bR keep) _ rfl (bj keep).symm ?Cz A9 _ c9 (bR l9) (bj l9) rfl ?Fb (by rw [bj,bj];omega) ?_;(case Cz=>first |exact Xn.o.drew |exact Xn.o);(case Fb=>first |exact Bn.o.drew |exact Bn.o);intro A' cap w7 xC gG hb7 pE)
      refine hK.out _ _ (.inr ?_) (fun mj=> ?_)
      ·first |exact aH.aj gG |exact aH
      clear hK K
      try simp only [Act.put,q5,q6,q7]
      refine TB 1 [(16,[])] mj ?_;intro mj
      refine R2 17 mj fun K hK aH=> ?_
      (have sb:=aH.bD pt.o mq.o;have fb:World.frozen? _ _=_:=(World.frozen?_of_block (aH.block gw (bE mq.o) pt.o)).trans Lh.o;go_simp)
      refine hK.out _ _ (.inl rfl) (fun jX=> ?_)
      clear hK K
      try simp only [Act.put,q5,q6,q7]
      refine fo ?_
      have za:Ints w7 A' cap (bR (keep++l9)):=by
       have :=xC
       unfold bR at this⊢
       rw [bJ]
       exact this
      obtain ⟨FM,eY,_,L8,h8,D1,Aj,QV,jg⟩:=H2.o.R9 (c:=cy) Ll.o (A0:=none) jN.o za aH (fun k hk=>(hb7 k hk).imp id (fun e=>by rw [e];exact au _))
      obtain rfl :gw=FM:=by rw [Lg.o] at eY;simpa using eY
      simp only [ai] at h8 jg
      obtain ⟨W8,hW8⟩:∃W,w7.setCell ⟨gw,cy,none⟩ (.slice A' (keep.length+l9.length) cap)=W:=⟨_,rfl⟩
      rw [hW8] at h8 jg⊢
      have J3:L.ext L8 w:=by
       refine ⟨D1.trans dx.o.1,Aj.trans dx.o.2.1,fun k hk e=> ?_⟩
       rcases QV k (aK hk cH.o.size) (e.trans dx.o.2.1.symm) with h1 |h1
       ·exact dx.o.2.2 k hk (h1.trans dx.o.2.1)
       ·rcases Eb.o k h1 with h2 |h2
        ·exact (aQ.bQ.1 h2).2
        ·omega
      have Ot:Fr (L.own w) w W8:=cH.o.trans jg (fun k hk=>by
       rcases ag.1 hk with h1 |h1
       ·exact Eb.o k h1
       ·rw [aQ.bQ] at h1
        rcases bK k w.heap.size with hl |hl
        ·exact .inl (aQ.bQ.2 ⟨hl,dx.o.2.2 k hl (h1.2.trans dx.o.2.1)⟩)
        ·exact .inr hl)
      have vX:S2.cd cy (keep++l9)=VR.1:=by rw [←P7.o]
      rw [vX] at h8
      have hhv:=Gj.o.2.2.1
      have hh9:VR.1.head=S1.head:=hhv
      have LA:VR.1.vars=S1.vars:=Gj.o.2.1
      have VQ:S1.T.lits.length≤VR.1.T.lits.length:=by
       have :=Sv.k9 off [] [] (S1.cd cy [])
       rw [WY.o] at this
       exact this
      have c8:=h8.cells.2.2.2.2.2.2.2.2.1
      have f8:=h8.obj.frozen 8
      rw [hh9] at c8
      rw [D1.trans dx.o.1] at c8 f8
      obtain ⟨h9,ow⟩:=h8.ut (S1.head+1)
      rw [D1.trans dx.o.1] at h9 ow
      have H9:=ae h9
      have tG:=ae (aQ.aR J3 Ot ow)
      have HE9:=ae J3
      have Xd:al (({ VR.1 with head:=S1.head+1 }:Sv).Ok 0):=(by
       have o:=Gj.o.1
       exact ⟨o.vl,o.tr,o.hi,o.hl,o.ph,o.wl,o.ll,o.wb,o.wt,o.lr,o.ln,o.lb,by show S1.head+1≤VR.1.T.lits.length;omega,o.rs⟩:({ VR.1 with head:=S1.head+1 }:Sv).Ok 0)
      have WS:=ae LA
      have hhb:S1.head≤262143:=by omega
      clear hW8 h8 jg J3 Ot vX hhv hh9 LA VQ h9 ow xC gG hb7 pE za QV D1 Aj aH
      go_wp2
      go_roundg f
      case measure=>omega
      case rel=>exact ⟨{ VR.1 with head:=S1.head+1 },L8,Qa.o,(by show VR.1.vars+1≤f+(S1.head+1);have :=Yl.o;have :=WS.o;omega),Xd.o,H9.o,HE9.o,tG.o⟩
   ·go_wp2_with fail
    go_loopg [5,56] l0.length (fun g2 x5 x56 wi=>∃(i:Nat) (keep:List Nat) (S2:Sv) (L2:aQ),i+g2=l0.length∧keep.length≤i∧x5= .slice (some ⟨g0,0,none⟩) keep.length c0∧x56= .int .i64 i∧al (Sv.bS off (l0.drop i) keep S2=VR)∧al (S2.Ok (keep.length+(l0.length-i)))∧al (∀n∈keep,n<S1.list.length)∧al (S2.list.length=S1.list.length∧S2.vars=S1.vars∧S2.watch.length=2*S1.vars+2)∧al (bf wi L2 S2)∧al (L.ext L2 w)∧al (Fr (L.own w) w wi)∧al (Ints wi (some ⟨g0,0,none⟩) c0 (bR (keep++l0.drop keep.length)))∧al (∀k,k∈ap (some ⟨g0,0,none⟩)→(L2.cQ k).1≠L2.id))
    case atStart=>exact ⟨0,[],S1.cd cy [],L5,by omega,au _,rfl,rfl,WY.o,Md.o.less (by simp),(fun n hn=>by cases hn),⟨rfl,rfl,abG.o⟩,H5.o,nK.o,kN.o,Lf.o,Yj.o⟩
    case round=>
     obtain ⟨i,keep,S2,L2,hi,LM,rfl,rfl,HVS,ul,D9,pR,H2,dx,cH,mw,jN⟩:=hrel
     have HI:=ae hi
     have tp:i≤l0.length:=by omega
     clear hi
     by_cases xU:i<l0.length
     ·have cn:=(mw.o:Ints _ (some ⟨g0,0,none⟩) c0 _).cell (i:=i) (by rw [bj,oR (by omega)];exact xU)
      rw [o7,GW LM xU] at cn
      obtain ⟨n,hn⟩:∃n,l0[i]! =n:=⟨_,rfl⟩
      rw [hn] at cn
      have NE:n∈l0:=by rw [←hn];simp only [aa,af xU,ay];exact List.getElem_mem xU
      have qw:n<S2.list.length:=by rw [pR.o.1];exact ab5.o n NE
      have TQ:n<2199023255552:=by have :=j4.o.ll;have :=pR.o.1;omega
      have tZ:l0.drop i=n::l0.drop (i+1):=by rw [List.drop_eq_getElem_cons xU,←hn];simp only [aa,af xU,ay]
      have VA:=ul.o.less (m':=(keep.length+(l0.length-(i+1)))+1) (by omega)
      have WX:=Bv _ L2 S2 H2.o _ VA n qw off
      have hvo:=VA.visit qw off
      have XX:=Mk S2 n off
      have jT:=HVS.o
      rw [tZ] at jT
      simp only [Sv.bS] at jT
      rw [dx.o.1] at WX
      obtain ⟨⟨q1,st,QJ⟩,hq⟩:∃q,S2.cY n off=q:=⟨_,rfl⟩
      rw [hq] at WX hvo XX jT
      simp only at WX hvo XX jT
      have WX:=ae WX
      have WW:=ae hvo
      have ahY:=ae XX
      have WV:=ae jT
      have Lc:=ae (ab5.o n NE)
      clear hq hvo XX jT tZ NE hn qw VA
      go_wp2_with fail
      clear cn
      refine WX.o.mono ?_
      clear WX
      rintro e w6 ⟨rfl,L3,h3,xD,dD⟩
      have iu:=ae (aQ.aX dx.o (by exact xD) cH.o.size)
      have PF:=ae (aQ.aR dx.o cH.o dD)
      have eY:∀V:World,g0∉L2.own V:=fun V hm=>jN.o g0 (by simp [ap]) (aQ.bQ.1 hm).2
      have Gy:=ae (mw.o.fr dD (fun k hk=>by simp [ap] at hk;subst hk;exact eY _))
      have mv:al (∀k,k∈ap (some (⟨g0,0,none⟩:Addr))→(L3.cQ k).1≠L3.id):=fun k hk e=>by
       have hl:k<_:=mw.o.lt k hk
       exact jN.o k hk (xD.2.2 k hl (e.trans xD.2.1))
      have H3:=ae h3
      clear h3 xD dD eY dx cH H2 mw jN
      cases st with
      |true=>
       cases QJ with
       |true=>
        have nI:keep.length<l0.length:=by omega
        have HB:al (Fr [] w6 (w6.alloc (.cells #[.int .i64 n] 3))):=aN _ _
        have PN:al ((w6.alloc (.cells #[.int .i64 n] 3)).cell? ⟨w6.heap.size,0,none⟩=some (.int .i64 n)):=(At.new w6 _ _).cell 0
        go_wp2_with (at_builtin;(refine kY _ rfl _ _ rfl g0 c0 keep.length (bR (keep++l0.drop keep.length)) rfl (Gy.o.dX HB.o) ⟨w6.heap.size,0,none⟩ 1 n rfl PN.o (by rw [bj,oR (by omega)];exact nI) ?_;intro w7 xC gG))
        rw [GV n nI] at xC
        have xI:=ae xC
        have Wq:Fr [g0] w6 w7:=(HB.o.mono (fun k hk=>by cases hk)).aj gG
        have H7:=ae (H3.o.fr Wq (fun k hk _=>by simp at hk;subst hk;exact mv.o k (by simp [ap])))
        have rW:=ae (PF.o.trans Wq (fun k hk=>by simp at hk;subst hk;exact Eb.o k (by simp [ap])))
        have K6:=ae WW.o
        have jT:=WV.o
        simp only [if_true] at jT
        have WU:=ae jT
        have ab8:al (∀j∈keep++[n],j<S1.list.length):=fun j hj=>by
         rcases ag.1 hj with h |h
         ·exact D9.o j h
         ·simp at h;rw [h];exact Lc.o
        clear xC gG Wq jT HB PN Gy H3 PF
        have jT:=WU.o
        try simp only [if_true] at jT
        have WT:=ae jT
        clear jT
        go_roundg (gk-1)
        case measure=>have :=HI.o;omega
        case rel=>exact ⟨i+1,keep++[n],q1,L3,by have :=HI.o;omega,by simp;omega,by simp,by go_num,WT.o,K6.o.1.less (by simp;omega),ab8.o,⟨by rw [K6.o.2.2.1];exact pR.o.1,by rw [K6.o.2.1];exact pR.o.2.1,by rw [K6.o.2.2.2.2];exact pR.o.2.2⟩,H7.o,iu.o,rW.o,xI.o,mv.o⟩
       |false=>
        have nI:keep.length<l0.length:=by omega
        have HB:al (Fr [] w6 (w6.alloc (.cells #[.int .i64 n] 3))):=aN _ _
        have PN:al ((w6.alloc (.cells #[.int .i64 n] 3)).cell? ⟨w6.heap.size,0,none⟩=some (.int .i64 n)):=(At.new w6 _ _).cell 0
        go_wp2_with (at_builtin;(refine kY _ rfl _ _ rfl g0 c0 keep.length (bR (keep++l0.drop keep.length)) rfl (Gy.o.dX HB.o) ⟨w6.heap.size,0,none⟩ 1 n rfl PN.o (by rw [bj,oR (by omega)];exact nI) ?_;intro w7 xC gG))
        rw [GV n nI] at xC
        have xI:=ae xC
        have Wq:Fr [g0] w6 w7:=(HB.o.mono (fun k hk=>by cases hk)).aj gG
        have H7:=ae (H3.o.fr Wq (fun k hk _=>by simp at hk;subst hk;exact mv.o k (by simp [ap])))
        have rW:=ae (PF.o.trans Wq (fun k hk=>by simp at hk;subst hk;exact Eb.o k (by simp [ap])))
        have K6:=ae WW.o
        have jT:=WV.o
        simp only [if_true] at jT
        have WU:=ae jT
        have ab8:al (∀j∈keep++[n],j<S1.list.length):=fun j hj=>by
         rcases ag.1 hj with h |h
         ·exact D9.o j h
         ·simp at h;rw [h];exact Lc.o
        clear xC gG Wq jT HB PN Gy H3 PF
        have oy:cy<L3.ws.length:=by rw [H7.o.qX,K6.o.2.2.2.2,pR.o.2.2];have :=DL.o;rw [H1L.o] at this;exact this
        obtain ⟨gw,tW,sw,fw⟩:=H7.o.UI oy
        obtain ⟨-,-,-,-,c4,-⟩:=H7.o.cells
        rw [tW,iu.o.1] at c4
        have DG:al (L.a∉ap (some ⟨g0,0,none⟩)):=fun hm=>mv.o _ hm (H7.o.jq (.inl (by rw [iu.o.1])))
        have pt:al (gw∉ap (some ⟨g0,0,none⟩)):=fun hm=>mv.o _ hm (H7.o.jq (.inr (.inr (.inr (.inr (.inl (by rw [tW];simp [ap])))))))
        have DM:=ae c4
        have mq:=ae sw
        have Lh:=ae fw
        have Lg:=ae tW
        have jT:=WU.o
        try simp only [dt,if_false] at jT
        rw [Qi.o] at jT
        have P7:=ae jT
        have N9:cy<L3.ws.length:=oy
        have Ll:=ae N9
        have Qa:al (dC=(VR.1,some n)):=by
         rcases uQ.o with h1 |⟨n',h1,h2⟩
         ·rw [←P7.o] at h1
          simp at h1
         ·have e:n'=n:=by rw [←P7.o] at h1;simpa using h1.symm
          rw [h2,e]
          rfl
        have amO:keep.length+1≤i+1:=by omega
        have HIN:al (∀k:Nat,k<(bR (l0.drop (i+1))).length→w7.cell? ⟨g0,i+1+k,none⟩=some (.int .i64 (bR (l0.drop (i+1)))[k]!)):=fun k hk=>by
         rw [bj,iX] at hk
         have h1:=xI.o.cell (i:=i+1+k) (by rw [bj,oR (by simp;omega)];omega)
         rw [h1,o7,o7,GW (by simp;omega) (by omega),wD]
        have aap:(bR (l0.drop (i+1))).length=l0.length-(i+1):=by rw [bj,iX]
        have ahG:=ae aap
        have amW:IntKind.i64.wrap ((i:Int)+1)=(i:Int)+1:=IntWalk.i64_in _ (by omega)
        have Bf:(i:Int)+1≤l0.length:=by omega
        have J1:(0:Int)≤(i:Int)+1:=by omega
        have jh:i+1≤l0.length:=by omega
        have X0:i+1≤c0:=by omega
        clear jT sw fw tW c4 oy aap
        by_cases sI:c0=i+1
        ·subst sI
         refine wp_region_noPanic ?_
         refine bp (fun w':World=>Fr [g0] w7 w') 13 (by kernel_rfl) ((Fr.refl _ w7).drew) (fun db=> ?_)
         refine pf 10 [(0,[]),(1,[]),(2,[]),(3,[3,13]),(4,[]),(6,[]),(7,[]),(8,[]),(9,[]),(10,[])] db (fun w cm=>And.intro (cm.bD DG.o DM.o) (cm.bD pt.o mq.o)) ?_;intro db
         refine R2 5 db fun K hK aH=> ?_
         (go_simp;refine (KC.o _).mono ?_;rintro e w5 ⟨rfl,rfl⟩;dsimp only)
         refine hK.out _ _ (.inr ?_) (fun mn=> ?_)
         ·first |exact aH.aj jg |exact aH
         clear hK K
         try simp only [Act.put,q5,q6,q7]
         refine R2 11 mn fun K hK aH=> ?_
         (refine nT rfl _ _ rfl g0 (i+1) (keep.length+1) (bR ((keep++[n])++l0.drop (keep++[n]).length)) rfl ?CC ⟨g0,0,none⟩ 0 0 [] rfl rfl (fun k hk=>absurd hk (by simp)) (by rw [bj,oR (by simp;omega)];simp;omega) ?_;(case CC=>first |exact xI.o.drew |exact xI.o);intro w8 za jg)
         refine hK.out _ _ (.inr ?_) (fun jC=> ?_)
         ·first |exact aH.aj jg |exact aH
         clear hK K
         try simp only [Act.put,q5,q6,q7]
         refine TB 1 [(12,[])] jC ?_;intro jC
         refine R2 13 jC fun K hK aH=> ?_
         (have sb:=aH.bD pt.o mq.o;have fb:World.frozen? _ _=_:=(World.frozen?_of_block (aH.block gw (bE mq.o) pt.o)).trans Lh.o;go_simp)
         refine hK.out _ _ (.inl rfl) (fun ml=> ?_)
         clear hK K
         try simp only [Act.put,q5,q6,q7]
         refine fo ?_
         have hcut:(bR ((keep++[n])++l0.drop (keep++[n]).length)).take (keep.length+1)=bR (keep++[n]):=by
          have :=uw (keep:=keep++[n]) (l0:=l0)
          rw [ai,bF] at this
          rw [ai,bF]
          exact this
         have hdz:l0.drop (i+1)=[]:=List.drop_eq_nil_of_le (by omega)
         have hlz:l0.length-(i+1)=0:=by omega
         have hi9:Ints w8 (some ⟨g0,0,none⟩) (i+1) (bR ((keep++[n])++l0.drop (i+1))):=by
          have :=za.py (keep.length+1)
          rw [hcut,bU,mB (by rw [bj];simp),dn (by rw [bj];simp)] at this
          rw [hdz,bU]
          exact this
         obtain ⟨FM,eY,_,L8,h8,D1,Aj,QV,ow⟩:=H7.o.R9 (c:=cy) Ll.o (A0:=some ⟨g0,0,none⟩) mv.o hi9 aH (fun k hk=> .inl hk)
         obtain rfl :gw=FM:=by rw [Lg.o] at eY;simpa using eY
         have NK:((keep++[n])++l0.drop (i+1)).length=keep.length+1+(l0.length-(i+1)):=by simp;omega
         rw [NK,hlz] at h8 ow
         have J3:L.ext L8 w:=by
          refine ⟨D1.trans iu.o.1,Aj.trans iu.o.2.1,fun k hk e=> ?_⟩
          rcases QV k (aK hk rW.o.size) (e.trans iu.o.2.1.symm) with h1 |h1
          ·exact iu.o.2.2 k hk (h1.trans iu.o.2.1)
          ·rcases Eb.o k h1 with h2 |h2
           ·exact (aQ.bQ.1 h2).2
           ·omega
         have Ot:=rW.o.trans ow (fun k hk=>by
          rcases ag.1 hk with h1 |h1
          ·exact Eb.o k h1
          ·rw [aQ.bQ] at h1
           rcases bK k w.heap.size with hl |hl
           ·exact .inl (aQ.bQ.2 ⟨hl,iu.o.2.2 k hl (h1.2.trans iu.o.2.1)⟩)
           ·exact .inr hl)
         have vX:q1.cd cy ((keep++[n])++l0.drop (i+1))=VR.1:=by rw [←P7.o]
         rw [vX] at h8
         have FF:=ae (mF.o VR.1 (some n) Qa.o _ L8 h8 J3 Ot)
         clear za jg hi9 h8 J3 Ot vX aH ow
         go_wp2
         go_ret
         exact FF.o
        ·have ajO:c0-(i+1)≠0:=by omega
         refine wp_region_noPanic ?_
         refine bp (fun w':World=>Fr [g0] w7 w') 13 (by kernel_rfl) ((Fr.refl _ w7).drew) (fun db=> ?_)
         refine pf 10 [(0,[]),(1,[]),(2,[]),(3,[3,13]),(4,[]),(6,[]),(7,[]),(8,[]),(9,[]),(10,[])] db (fun w cm=>And.intro (cm.bD DG.o DM.o) (cm.bD pt.o mq.o)) ?_;intro db
         refine R2 5 db fun K hK aH=> ?_
         (go_simp;refine (KC.o _).mono ?_;rintro e w5 ⟨rfl,rfl⟩;dsimp only)
         refine hK.out _ _ (.inr ?_) (fun mn=> ?_)
         ·first |exact aH.aj jg |exact aH
         clear hK K
         try simp only [Act.put,q5,q6,q7]
         refine R2 11 mn fun K hK aH=> ?_
         (refine nT rfl _ _ rfl g0 c0 (keep.length+1) (bR ((keep++[n])++l0.drop (keep++[n]).length)) rfl ?CB ⟨g0,i+1,none⟩ (l0.length-(i+1)) (c0-(i+1)) (bR (l0.drop (i+1))) ahG.o rfl ?Fd (by rw [bj,bj,oR (by simp;omega),iX];omega) ?_;(case CB=>first |exact xI.o.drew |exact xI.o);(case Fd=>exact (fun k hk=>by rw [dJ];exact HIN.o k hk));intro w8 za jg)
         refine hK.out _ _ (.inr ?_) (fun jC=> ?_)
         ·first |exact aH.aj jg |exact aH
         clear hK K
         try simp only [Act.put,q5,q6,q7]
         refine TB 1 [(12,[])] jC ?_;intro jC
         refine R2 13 jC fun K hK aH=> ?_
         (have sb:=aH.bD pt.o mq.o;have fb:World.frozen? _ _=_:=(World.frozen?_of_block (aH.block gw (bE mq.o) pt.o)).trans Lh.o;go_simp)
         refine hK.out _ _ (.inl rfl) (fun ml=> ?_)
         clear hK K
         try simp only [Act.put,q5,q6,q7]
         refine fo ?_
         have hcut:(bR ((keep++[n])++l0.drop (keep++[n]).length)).take (keep.length+1)=bR (keep++[n]):=by
          have :=uw (keep:=keep++[n]) (l0:=l0)
          rw [ai,bF] at this
          rw [ai,bF]
          exact this
         have hi9:Ints w8 (some ⟨g0,0,none⟩) c0 (bR ((keep++[n])++l0.drop (i+1))):=by
          have :=za.py (keep.length+1+(l0.length-(i+1)))
          rw [hcut] at this
          have e:(bR (keep++[n])++bR (l0.drop (i+1))).length=keep.length+1+(l0.length-(i+1)):=by
           rw [ai,bj,bj,iX,ai,bF]
          rw [mB (by rw [e];exact au _),dn (by rw [e];exact au _)] at this
          unfold bR at this⊢
          rw [bJ]
          exact this
         obtain ⟨FM,eY,_,L8,h8,D1,Aj,QV,ow⟩:=H7.o.R9 (c:=cy) Ll.o (A0:=some ⟨g0,0,none⟩) mv.o hi9 aH (fun k hk=> .inl hk)
         obtain rfl :gw=FM:=by rw [Lg.o] at eY;simpa using eY
         have NK:((keep++[n])++l0.drop (i+1)).length=keep.length+1+(l0.length-(i+1)):=by simp;omega
         rw [NK] at h8 ow
         have J3:L.ext L8 w:=by
          refine ⟨D1.trans iu.o.1,Aj.trans iu.o.2.1,fun k hk e=> ?_⟩
          rcases QV k (aK hk rW.o.size) (e.trans iu.o.2.1.symm) with h1 |h1
          ·exact iu.o.2.2 k hk (h1.trans iu.o.2.1)
          ·rcases Eb.o k h1 with h2 |h2
           ·exact (aQ.bQ.1 h2).2
           ·omega
         have Ot:=rW.o.trans ow (fun k hk=>by
          rcases ag.1 hk with h1 |h1
          ·exact Eb.o k h1
          ·rw [aQ.bQ] at h1
           rcases bK k w.heap.size with hl |hl
           ·exact .inl (aQ.bQ.2 ⟨hl,iu.o.2.2 k hl (h1.2.trans iu.o.2.1)⟩)
           ·exact .inr hl)
         have vX:q1.cd cy ((keep++[n])++l0.drop (i+1))=VR.1:=by rw [←P7.o]
         rw [vX] at h8
         have FF:=ae (mF.o VR.1 (some n) Qa.o _ L8 h8 J3 Ot)
         clear za jg hi9 h8 J3 Ot vX aH ow
         go_wp2
         go_ret
         exact FF.o
      |false=>
       have ae1:=ahY.o rfl
       subst ae1
       have jT:=WV.o
       simp only [dt,if_false,if_true] at jT
       have WT:=ae jT
       clear jT
       go_wp2
       go_roundg (gk-1)
       case measure=>have :=HI.o;omega
       case rel=>exact ⟨i+1,keep,q1,L3,by have :=HI.o;omega,by omega,rfl,by go_num,WT.o,WW.o.1.less (by simp),D9.o,⟨by rw [WW.o.2.2.1];exact pR.o.1,by rw [WW.o.2.1];exact pR.o.2.1,by rw [WW.o.2.2.2.2];exact pR.o.2.2⟩,H3.o,iu.o,PF.o,Gy.o,mv.o⟩
     ·obtain rfl :i=l0.length:=by omega
      clear HI
      have oy:cy<L2.ws.length:=by rw [H2.o.qX,pR.o.2.2];have :=DL.o;rw [H1L.o] at this;exact this
      obtain ⟨gw,tW,sw,fw⟩:=H2.o.UI oy
      obtain ⟨-,-,-,-,c4,-⟩:=H2.o.cells
      rw [tW,dx.o.1] at c4
      have DG:al (L.a∉ap (some ⟨g0,0,none⟩)):=fun hm=>jN.o _ hm (H2.o.jq (.inl (by rw [dx.o.1])))
      have pt:al (gw∉ap (some ⟨g0,0,none⟩)):=fun hm=>jN.o _ hm (H2.o.jq (.inr (.inr (.inr (.inr (.inl (by rw [tW];simp [ap])))))))
      have DM:=ae c4
      have mq:=ae sw
      have Lh:=ae fw
      have Lg:=ae tW
      have jT:=HVS.o
      rw [List.drop_length] at jT
      simp only [Sv.bS] at jT
      rw [Qi.o] at jT
      have tR:=H2.o.rX oy
      have Bb:=H2.o.rr cy oy
      have LK:=ul.o.room cy
      have Ny:∀k,k∈ap (L2.ws[cy]!).A→k∉ap (some ⟨g0,0,none⟩):=fun k hk hm=>jN.o k hm (H2.o.jq (.inr (.inr (.inr (.inr (.inr (.inr (.inr (.inr (.inr ⟨cy,oy,hk⟩))))))))))
      unfold Sv.fH at tR jT
      rw [tR] at LK jT
      obtain ⟨⟨A9,c9,l9⟩,EY⟩:∃x,L2.ws[cy]! =x:=⟨_,rfl⟩
      rw [EY] at sw Bb LK jT Ny
      rw [EY] at mq
      simp only at sw Bb LK jT mq Ny
      have Bn:=ae Bb
      have P7:=ae jT
      have CH:Ints wr (some ⟨g0,0,none⟩) c0 (bR keep):=by
       have :=mw.o.py keep.length
       rw [uw] at this
       exact this
      have Xn:=ae CH
      have N9:cy<L2.ws.length:=oy
      have Ll:=ae N9
      have Qa:al (Sv.dd f { VR.1 with head:=S1.head+1 }=dC):=by
       rcases uQ.o with h1 |⟨n,h1,_⟩
       ·exact h1.1
       ·rw [←P7.o] at h1
        simp at h1
      have afm:keep.length≤4398046511104:=by omega
      clear EY tR Bb jT CH sw fw tW c4 oy
      go_upto_region 17 with fail
      refine wp_region_noPanic ?_
      refine bp (fun w':World=>Fr (ap (some ⟨g0,0,none⟩)) wr w') 17 (by kernel_rfl) ((Fr.refl _ wr).drew) (fun db=> ?_)
      refine pf 11 [(0,[]),(1,[]),(2,[]),(3,[3,17]),(4,[]),(6,[]),(7,[]),(8,[]),(9,[]),(10,[10,17]),(11,[])] db (fun w cm=>And.intro (cm.bD DG.o DM.o) (cm.bD pt.o mq.o)) ?_;intro db
      refine R2 5 db fun K hK aH=> ?_
      (go_simp;refine (KC.o _).mono ?_;rintro e w5 ⟨rfl,rfl⟩;dsimp only)
      refine hK.out _ _ (.inr ?_) (fun jC=> ?_)
      ·first |exact aH.aj gG |exact aH
      clear hK K
      try simp only [Act.put,q5,q6,q7]
      refine R2 12 jC fun K hK aH=> ?_
      (go_simp;refine (KC.o _).mono ?_;rintro e w5 ⟨rfl,rfl⟩;dsimp only)
      refine hK.out _ _ (.inr ?_) (fun qh=> ?_)
      ·first |exact aH.aj gG |exact aH
      clear hK K
      try simp only [Act.put,q5,q6,q7]
      refine pf 2 [(13,[]),(14,[14,17])] qh (fun w cm=>And.intro (cm.bD DG.o DM.o) (cm.bD pt.o mq.o)) ?_;intro qh
      refine R2 15 qh fun K hK aH=> ?_
      (refine lW rfl _ _ rfl (some ⟨g0,0,none⟩) c0 (bR keep) _ rfl (bj keep).symm ?CA A9 _ c9 (bR l9) (bj l9) rfl ?Fc (by rw [bj,bj];omega) ?_;(case CA=>first |exact Xn.o.drew |exact Xn.o);(case Fc=>first |exact Bn.o.drew |exact Bn.o);intro A' cap w7 xC gG hb7 pE)
      refine hK.out _ _ (.inr ?_) (fun mj=> ?_)
      ·first |exact aH.aj gG |exact aH
      clear hK K
      try simp only [Act.put,q5,q6,q7]
      refine TB 1 [(16,[])] mj ?_;intro mj
      refine R2 17 mj fun K hK aH=> ?_
      (have sb:=aH.bD pt.o mq.o;have fb:World.frozen? _ _=_:=(World.frozen?_of_block (aH.block gw (bE mq.o) pt.o)).trans Lh.o;go_simp)
      refine hK.out _ _ (.inl rfl) (fun jX=> ?_)
      clear hK K
      try simp only [Act.put,q5,q6,q7]
      refine fo ?_
      have za:Ints w7 A' cap (bR (keep++l9)):=by
       have :=xC
       unfold bR at this⊢
       rw [bJ]
       exact this
      obtain ⟨FM,eY,_,L8,h8,D1,Aj,QV,jg⟩:=H2.o.R9 (c:=cy) Ll.o (A0:=(some ⟨g0,0,none⟩)) jN.o za aH (fun k hk=>(hb7 k hk).imp id (fun e=>by rw [e];exact au _))
      obtain rfl :gw=FM:=by rw [Lg.o] at eY;simpa using eY
      simp only [ai] at h8 jg
      obtain ⟨W8,hW8⟩:∃W,w7.setCell ⟨gw,cy,none⟩ (.slice A' (keep.length+l9.length) cap)=W:=⟨_,rfl⟩
      rw [hW8] at h8 jg⊢
      have J3:L.ext L8 w:=by
       refine ⟨D1.trans dx.o.1,Aj.trans dx.o.2.1,fun k hk e=> ?_⟩
       rcases QV k (aK hk cH.o.size) (e.trans dx.o.2.1.symm) with h1 |h1
       ·exact dx.o.2.2 k hk (h1.trans dx.o.2.1)
       ·rcases Eb.o k h1 with h2 |h2
        ·exact (aQ.bQ.1 h2).2
        ·omega
      have Ot:Fr (L.own w) w W8:=cH.o.trans jg (fun k hk=>by
       rcases ag.1 hk with h1 |h1
       ·exact Eb.o k h1
       ·rw [aQ.bQ] at h1
        rcases bK k w.heap.size with hl |hl
        ·exact .inl (aQ.bQ.2 ⟨hl,dx.o.2.2 k hl (h1.2.trans dx.o.2.1)⟩)
        ·exact .inr hl)
      have vX:S2.cd cy (keep++l9)=VR.1:=by rw [←P7.o]
      rw [vX] at h8
      have hhv:=Gj.o.2.2.1
      have hh9:VR.1.head=S1.head:=hhv
      have LA:VR.1.vars=S1.vars:=Gj.o.2.1
      have VQ:S1.T.lits.length≤VR.1.T.lits.length:=by
       have :=Sv.k9 off l0 [] (S1.cd cy [])
       rw [WY.o] at this
       exact this
      have c8:=h8.cells.2.2.2.2.2.2.2.2.1
      have f8:=h8.obj.frozen 8
      rw [hh9] at c8
      rw [D1.trans dx.o.1] at c8 f8
      obtain ⟨h9,ow⟩:=h8.ut (S1.head+1)
      rw [D1.trans dx.o.1] at h9 ow
      have H9:=ae h9
      have tG:=ae (aQ.aR J3 Ot ow)
      have HE9:=ae J3
      have Xd:al (({ VR.1 with head:=S1.head+1 }:Sv).Ok 0):=(by
       have o:=Gj.o.1
       exact ⟨o.vl,o.tr,o.hi,o.hl,o.ph,o.wl,o.ll,o.wb,o.wt,o.lr,o.ln,o.lb,by show S1.head+1≤VR.1.T.lits.length;omega,o.rs⟩:({ VR.1 with head:=S1.head+1 }:Sv).Ok 0)
      have WS:=ae LA
      have hhb:S1.head≤262143:=by omega
      clear hW8 h8 jg J3 Ot vX hhv hh9 LA VQ h9 ow xC gG hb7 pE za QV D1 Aj aH
      go_wp2
      go_roundg f
      case measure=>omega
      case rel=>exact ⟨{ VR.1 with head:=S1.head+1 },L8,Qa.o,(by show VR.1.vars+1≤f+(S1.head+1);have :=Yl.o;have :=WS.o;omega),Xd.o,H9.o,HE9.o,tG.o⟩

  ·have hd:decide ((S1.head:Int)<(S1.T.lits.length:Int))=false:=decide_eq_false (by omega)
   have HRZ:al (dC=(S1,none)):=by
    have h1:=uR.o
    rw [mU bM] at h1
    exact h1.symm
   go_wp2
   refine ax ?_
   repeat (go_big_quiet_step (exact bk (KL.o _)))
   refine gO ?_
   intro w2 bl
   have FF:=ae (mF.o S1 none HRZ.o w2 L1 (H1.o.keep bl.o) eG.o (dy.o.aj (bl.o.mono (fun k hk=>by cases hk))))
   clear e0 e8 c0 c8 KL hd
   go_wp2
   go_ret
   exact FF.o
theorem PC.len {V:Hp} (h:PC V):V.items.length≤V.at_.length:=by
 have hn:(V.items.map Int.toNat).Nodup:=by
  unfold List.Nodup
  rw [List.pairwise_map,List.pairwise_iff_getElem]
  intro i j hi hj JQ e
  have ri:=h.oS i hi
  have rj:=h.oS j hj
  have gi:V.items[i]! =V.items[i]:=by simp [aa,af hi]
  have gj:V.items[j]! =V.items[j]:=by simp [aa,af hj]
  have :=h.inj hi hj (by rw [gi,gj];rw [gi] at ri;rw [gj] at rj;omega)
  omega
 have :=j9 V.at_.length _ hn (fun x hx=>by
  rw [az] at hx
  obtain ⟨y,hy,rfl⟩:=hx
  obtain ⟨i,hi,e⟩:=List.getElem_of_mem hy
  have ri:=h.oS i hi
  have gi:V.items[i]! =V.items[i]:=by simp [aa,af hi]
  rw [gi,e] at ri
  omega)
 simpa using this
theorem fD.co (L:fD) (w:World):L.ext L w:=⟨rfl,fun _ h=> .inl h,fun h=>h⟩
theorem vS (w:World) (L:fD) (H:Hp) (h:ct w L H) (hi:HI H) (hl:H.at_.length≤262145) (x:Int):
  Calls Tryz.prog 77 #[.pointer (some ⟨L.a,0,none⟩), .int .i64 x] w fun e w'=>∃b,e= .returned (.bool b)∧∃L',ct w' L' (Sv.ff H x)∧L.ext L' w∧Fr L.fp w w':=by
 unfold Sv.ff
 have sD:=hi.pc.len
 by_cases hb:H.iV x=true∧H.pl x<0
 ·rw [if_pos hb]
  refine (xX w L H h hi.pc.oS x hb.1 hb.2 (by omega)).mono ?_
  rintro e w' ⟨rfl,L',h1,h2,h3⟩
  exact ⟨_,rfl,L',h1,h2,h3⟩
 ·rw [if_neg hb]
  refine (An w L H h x ?_).mono ?_
  ·cases hc:H.iV x with
   |false=>exact .inl rfl
   |true=>exact .inr ⟨rfl,Int.not_lt.1 fun h=>hb ⟨hc,h⟩⟩
  rintro e w' ⟨rfl,rfl⟩
  exact ⟨_,rfl,L,h,fD.co _ _,Fr.refl _ _⟩
theorem CN (w:World) (L:fD) (H:Hp) (h:ct w L H) (hi:HI H) (x b:Int):
  Calls Tryz.prog 160 #[.pointer (some ⟨L.a,0,none⟩), .int .i64 x, .int .i64 b] w fun e w'=>e= .returned (.tuple #[])∧ct w' L (Sv.lG H x b)∧Fr L.fp w w':=by
 unfold Sv.lG
 by_cases hb:H.iV x=true∧0≤b∧b≤1099511627776∧H.sc x≤1125899906842624-b
 ·rw [if_pos hb]
  obtain ⟨h1,h2,h3,h4⟩:=hb
  have hx:=Hp.dj h1
  have hs:=hi.UR x.toNat (by rw [←hi.same];omega)
  have xy:H.pl x<H.items.length:=by
   unfold Hp.pl
   by_cases h0:0≤H.at_[x.toNat]!
   ·have :=(hi.pc.inv x.toNat (by omega) h0).1
    omega
   ·omega
  exact vR w L H h hi.pc.oS x b h1 h2 h3 h4 hs xy
 ·rw [if_neg hb]
  refine (xW w L H h x b hb).mono ?_
  rintro e w' ⟨rfl,rfl⟩
  exact ⟨rfl,h,Fr.refl _ _⟩
theorem HI.ff {H:Hp} (h:HI H) (x:Int):HI (Sv.ff H x)∧(Sv.ff H x).at_.length=H.at_.length:=by
 unfold Sv.ff
 split
 ·rename_i hb
  have :=h.push hb.1 hb.2
  exact ⟨this.1,this.2.2.2.1⟩
 ·exact ⟨h,rfl⟩
theorem bf.Tm {w:World} {L:aQ} {S:Sv} (h:bf w L S) {v:Nat} (hv:v<S.phase.length) (b:Bool):
  ∃gp,L.pA=some ⟨gp,0,none⟩∧w.cell? ⟨gp,v,none⟩=some (.bool S.phase[v]!)∧w.frozen? ⟨gp,v,none⟩=false∧bf (w.setCell ⟨gp,v,none⟩ (.bool b)) L { S with phase:=S.phase.set v b }∧Fr (L.own w) w (w.setCell ⟨gp,v,none⟩ (.bool b)):=by
 have r:=h.uv
 unfold Bools at r
 obtain ⟨gp,hg,sE⟩:∃gp,L.pA=some ⟨gp,0,none⟩∧gp<w.heap.size:=by
  rcases r.2 with ⟨_,h2⟩ |⟨g,cap,cur,hv,_,hg,_⟩
  ·omega
  ·simp only [Value.slice.injEq,true_and] at hv
   exact ⟨g,hv.1,At.lt (t:=4) hg⟩
 rw [hg] at r
 have kG:L.cQ gp=(L.id,5,0):=h.t5 gp (by rw [hg];simp [ap])
 have hf:Fr [gp] w (w.setCell ⟨gp,v,none⟩ (.bool b)):=(Fr.refl _ w).setCell (.inl (by simp)) _
 have o:=h.off (P:=(· =(5,0))) hf (fun k hk hl=>⟨_,rfl,by simp at hk;subst hk;exact kG⟩)
 have mg:=(World.ownsRow.stored r v (.bool b)).1
 refine ⟨gp,hg,?_,World.ownsRow.frozenAt r v,⟨?_,o.tr (by decide),o.hp (by decide),h.io,h.AA,h.Ay,o.ux (by decide),o.rws (by decide),?_,o.xv (by decide),o.tO (by decide),fun n hn=>o.pr n hn (by simp),fun n hn=>o.rr n hn (by simp),
  h.t0,h.t1,h.t2,h.t3,h.t4,h.t5,h.t6,h.t7,h.t8,h.t9⟩,aQ.gE hf (fun k hk hl=>by simp at hk;subst hk;rw [kG])⟩
 ·rw [World.ownsRow.cellAt r v (by omega)]
  simp only [aO,af hv,cu,aa,ay]
 ·have :=o.obj (by decide)
  simp only [oQ,aw] at this⊢
  exact this
 ·unfold Bools
  simp only [aw,List.map_set]
  rw [hg]
  exact mg
theorem bf.UU {w:World} {L:aQ} {S:Sv} (h:bf w L S) {v:Nat} (hv:v<S.phase.length):
  ∃gp,L.pA=some ⟨gp,0,none⟩∧w.cell? ⟨gp,v,none⟩=some (.bool S.phase[v]!)∧w.frozen? ⟨gp,v,none⟩=false:=by
 obtain ⟨gp,h1,h2,h3,_⟩:=h.Tm hv false
 exact ⟨gp,h1,h2,h3⟩
namespace Sv
def pO (S:Sv) (l:Int):Sv:={ S with phase:=S.phase.set (tv l).toNat (decide (0<l)),H:=ff S.H (tv l) }
theorem wZ {S:Sv} {level l:Int} {r:List Int} (h:¬S.T.da (tv l)≤level):dM level (l::r) S=dM level r (S.pO l):=by
 simp only [dM]
 rw [if_neg h]
 rfl
theorem qm {S:Sv} {level l:Int} {r:List Int} (h:S.T.da (tv l)≤level):dM level (l::r) S=S:=by
 simp only [dM]
 rw [if_pos h]
theorem Ok.pO {S:Sv} {m:Nat} (ok:S.Ok m) (l:Int):(S.pO l).Ok m:=by
 obtain ⟨h1,h2⟩:=ok.hi.ff (tv l)
 exact ⟨ok.vl,ok.tr,h1,by show (Sv.ff S.H (tv l)).at_.length=_;rw [h2];exact ok.hl,by show (S.phase.set _ _).length=_;rw [aw];exact ok.ph,ok.wl,ok.ll,ok.wb,ok.wt,ok.lr,ok.ln,ok.lb,ok.hd,ok.rs⟩
theorem Ok.cut {S:Sv} {m:Nat} (ok:S.Ok m) (level:Nat) (hl:level<S.T.levels.length):
  ({ S with T:=S.T.cV level,head:=min S.head (S.T.cV level).lits.length }:Sv).Ok m∧(S.T.cV level).levels.length=level:=by
 obtain ⟨R,hR⟩:=ok.tr
 have hb:=hR.back level hl
 have hd:=hb.dep
 have jh:TRep (S.T.cV level) S.vars (R.filter (fun e:St=>decide (e.l≤(level:Int)))) (S.T.cV level).levels.length:=by
  rw [hd]
  exact hb
 refine ⟨⟨ok.vl,⟨_,jh⟩,ok.hi,ok.hl,ok.ph,ok.wl,ok.ll,ok.wb,ok.wt,ok.lr,ok.ln,ok.lb,Nat.min_le_right _ _,fun v=> ?_⟩,hd⟩
 have e:=hb.fe v
 have e0:=hR.fe v
 have tm:=ok.rs v
 show 0≤(S.T.cV level).fe v∧(S.T.cV level).fe v≤_
 rw [e]
 cases hk:look (R.filter (fun e:St=>decide (e.l≤(level:Int)))) v with
 |none=>simp
 |some x=>
  obtain ⟨hm,hv⟩:=il hk
  have hx:=gS hR.nd (cq.1 hm).1
  rw [hv] at hx
  rw [hx] at e0
  simp only at e0⊢
  rw [←e0]
  exact tm
theorem jl (level:Int):∀(r:List Int) (S:Sv) (m:Nat),S.Ok m→(dM level r S).Ok m∧(dM level r S).T=S.T∧(dM level r S).head=S.head∧(dM level r S).vars=S.vars∧(dM level r S).list=S.list
 |[],S,m,ok=>⟨ok,rfl,rfl,rfl,rfl⟩
 |l::r,S,m,ok=>by
  by_cases h:S.T.da (tv l)≤level
  ·rw [qm h]
   exact ⟨ok,rfl,rfl,rfl,rfl⟩
  ·rw [wZ h]
   exact jl level r _ m (ok.pO l)
theorem Ok.back {S:Sv} {m:Nat} (ok:S.Ok m) (level:Nat):(S.back level).Ok m∧(S.back level).vars=S.vars∧(S.back level).list=S.list:=by
 unfold Sv.back
 split
 ·exact ⟨ok,rfl,rfl⟩
 ·rename_i h
  obtain ⟨h1,h2,h3,h4,h5⟩:=jl (level:Int) S.T.lits.reverse S m ok
  have :=(h1.cut level (by rw [h2];omega)).1
  exact ⟨this,h4,h5⟩
end Sv
theorem EH {x:Int} (h: -9223372036854775808<x):(if x< -x then -x else x)=tv x:=by
 by_cases h0:x<0
 ·rw [if_pos (by omega),pV h0 h]
 ·rw [if_neg (by omega),mH (by omega)]
theorem qP {l:List Int} {n:Nat} (h:n<l.length):(l.take (n+1)).reverse=l[n]! ::(l.take n).reverse:=by
 rw [List.take_add_one,List.reverse_append]
 simp only [aa,af h,fq,List.reverse_cons,List.reverse_nil,List.nil_append,List.cons_append,ay]
theorem Sv.Ok.oO {S:Sv} {m:Nat} (ok:S.Ok m) {i:Nat} (h:i<S.T.lits.length):1≤tv S.T.lits[i]! ∧tv S.T.lits[i]! ≤S.vars∧ -(S.vars:Int)≤S.T.lits[i]! ∧S.T.lits[i]! ≤S.vars∧S.T.lits[i]! ≠0:=by
 obtain ⟨R,hR⟩:=ok.tr
 have hm:S.T.lits[i]! ∈S.T.lits:=get_mem h
 generalize S.T.lits[i]! =x at hm⊢
 rw [hR.lits,az] at hm
 obtain ⟨e,he,rfl⟩:=hm
 have hb:=hR.bound e he
 have hv:=ok.vl
 refine ⟨hb.2.2.1,hb.2.2.2,?_⟩
 have h3:=hb.2.2.1
 have h4:=hb.2.2.2
 unfold tv at h3 h4
 split at h3
 ·omega
 ·split at h3
  ·rename_i h5 h6
   rw [if_neg h5,if_pos h6] at h4
   omega
  ·rename_i h5 h6
   rw [if_neg h5,if_neg h6] at h4
   omega
theorem Sv.Ok.Yx {S:Sv} {m:Nat} (ok:S.Ok m):S.T.Inv:=by
 obtain ⟨R,hR⟩:=ok.tr
 exact hR.inv
theorem Sv.Ok.fQ {S:Sv} {m:Nat} (ok:S.Ok m):S.T.lits.length≤S.vars:=by
 obtain ⟨R,hR⟩:=ok.tr
 have :=hR.fQ
 rw [hR.lits,aq]
 exact this
theorem pd {T:Tr} {i:Nat} (h:i<T.lits.length):T.X9 (i:Int)=T.lits[i]! :=by
 unfold Tr.X9
 rw [if_pos (by omega),Int.toNat_natCast]
theorem Sa {L L':aQ} {w w':World} (h:L.ext L' w') (hs:w.heap.size≤w'.heap.size):L.ext L' w:=⟨h.1,h.2.1,fun k hk e=>h.2.2 k (aK hk hs) e⟩
theorem m6 (w:World) (L:aQ) (S:Sv) (h:bf w L S) (m:Nat) (ok:S.Ok m) (level:Nat) (lI:level<4611686018427387904):
  Calls Tryz.prog 86 #[.pointer (some ⟨L.a,0,none⟩), .int .i64 level] w (oF (.tuple #[]) (S.back level) L w):=by
 have HH:=ae h
 have kM:=ae ok
 have nF:=ok.vl
 have Ht:=ok.fQ
 obtain ⟨c0,-⟩:=h.cells
 have e0:=Ext.cell c0
 have KD:=ae (lf w L.tL S.T h.tr)
 have KL:=ae (ko w L.tL S.T h.tr)
 by_cases hs:S.T.levels.length≤level
 ·have hb:S.back level=S:=by unfold Sv.back;rw [if_pos hs]
  rw [hb]
  have mF:al (oF (.tuple #[]) S L w (.returned (.tuple #[])) w):=⟨rfl,L,h,aQ.co _ _,Fr.refl _ _⟩
  have hd:decide ((S.T.levels.length:Int)≤(level:Int))=true:=decide_eq_true (by omega)
  clear h ok hb
  go_enter Tryz.func86,Tryz.ntmps86
  go_wp2_with fail
  refine KD.o.mono ?_
  rintro e w1 ⟨rfl,rfl⟩
  go_wp2_with fail
  refine bodyPost_ret (results_none rfl _ _ _) rfl ?_
  exact mF.o
 ·have hd:decide ((S.T.levels.length:Int)≤(level:Int))=false:=decide_eq_false (by omega)
  obtain ⟨Q,hQ⟩:∃Q,Sv.dM (level:Int) S.T.lits.reverse S=Q:=⟨_,rfl⟩
  have hb:S.back level={ Q with T:=Q.T.cV level,head:=min Q.head (Q.T.cV level).lits.length }:=by unfold Sv.back;rw [if_neg hs,hQ]
  have hQs:=Sv.jl (level:Int) S.T.lits.reverse S m ok
  rw [hQ] at hQs
  obtain ⟨B,hB⟩:∃B,S.back level=B:=⟨_,rfl⟩
  rw [hB] at hb⊢
  have HB:=ae hb
  have HQ:=ae hQ
  have HQS:=ae hQs
  have HT0:al (S.T.lits.take S.T.lits.length=S.T.lits):=eD
  have Pq:=ae (Nat.lt_of_not_le hs)
  clear h ok hb hQ hB hQs e0
  go_enter Tryz.func86,Tryz.ntmps86
  go_wp2_with fail
  refine KD.o.mono ?_
  rintro e w1 ⟨rfl,rfl⟩
  go_wp2_with fail
  refine KL.o.mono ?_
  rintro e w1 ⟨rfl,rfl⟩
  clear KD KL
  go_wp2_with fail
  clear c0
  go_loopg [4] S.T.lits.length (fun g x4 wr=>∃(S1:Sv) (L1:aQ),g≤S.T.lits.length∧x4= .int .i64 ((g:Int)-1)∧al (Sv.dM (level:Int) (S.T.lits.take g).reverse S1=Q)∧al (S1.T=S.T∧S1.vars=S.vars∧S1.head=S.head)∧al (S1.Ok m)∧al (bf wr L1 S1)∧al (L.ext L1 w)∧al (Fr (L.own w) w wr))
  case atStart=>exact ⟨S,L,au _,by go_num,by rw [HT0.o];exact HQ.o,⟨rfl,rfl,rfl⟩,kM.o,HH.o,aQ.co _ _,Fr.refl _ _⟩
  case round=>
   obtain ⟨S1,L1,hg,rfl,HB1,pR,j4,H1,eG,dy⟩:=hrel
   have lO:L1.a=L.a:=eG.o.1
   obtain ⟨c0,c1,-,-,-,c5,-,-,c8,-⟩:=H1.o.cells
   rw [lO] at c0 c1 c5 c8
   have uT:=ae c0
   have pu:=ae c1
   have Uz:=ae c5
   have HC8:=ae c8
   have Xu:=ae lO
   clear lO
   by_cases XW:gk=0
   ·subst XW
    have lQ:al (S1=Q):=HB1.o
    have DX:decide ((0:Int)≤(((0:Nat):Int)-1))=false:=by decide
    clear c0 c1 c5 c8

    have KB:=qaa wr L1.tL S1.T H1.o.tr j4.o.Yx (level:Int)
    rw [Int.toNat_natCast,pR.o.1] at KB
    have KB:=ae KB
    have c0:=uT.o
    go_wp2_with fail
    refine KB.o.mono ?_
    clear KB
    rintro e w2 ⟨rfl,Nj,bZ⟩
    obtain ⟨L2,g2,Ub,Ua⟩:=H1.o.qab Nj (ew.co _ _) bZ
    have PU:S1.T.cV level=Q.T.cV level:=by rw [lQ.o]
    rw [pR.o.1.symm.trans (by rw [pR.o.1]) ] at g2
    have G2:al (bf w2 L2 { Q with T:=Q.T.cV level }):=by
     have e1:S.T=Q.T:=by rw [←lQ.o,pR.o.1]
     rw [←e1,←lQ.o]
     exact g2
    have dx:=ae (aQ.aX eG.o Ub dy.o.size)
    have cH:=ae (aQ.aR eG.o dy.o Ua)
    have GB:al (L2.a=L.a):=dx.o.1
    have xE:=G2.o.cells
    rw [GB.o] at xE
    obtain ⟨d0,-,-,-,-,-,-,-,d8,-⟩:=xE
    have Tc:=ae d0
    have PM:=ae d8
    have tX:=G2.o.obj.frozen 8
    rw [GB.o] at tX
    have HFZ:=ae tX
    have KL:=ae (fun W (hW:Fr [] w2 W)=>ko W L2.tL (Q.T.cV level) (G2.o.tr.fr hW (by simp)))
    have ND:(if (Q.T.cV level).lits.length<Q.head then ((Q.T.cV level).lits.length:Int) else (Q.head:Int))=((min Q.head (Q.T.cV level).lits.length:Nat):Int):=by
     rw [Nat.min_def]
     split<;>split<;>omega
    clear c0 Nj bZ g2 Ub Ua PU d0 d8 tX
    go_upto_region 10 with fail
    refine wp_region_noPanic ?_
    refine bp (fun w':World=>Fr [] w2 w') 13 (by kernel_rfl) ((Fr.refl [] w2).drew) (fun db=> ?_)
    refine pf 9 [(0,[]),(1,[]),(2,[]),(3,[]),(4,[4,13]),(5,[]),(6,[]),(7,[]),(8,[8,13])] db (fun w cm=>And.intro (cm.aT PM.o) (cm.aT Tc.o)) ?_;intro db
    refine R2 9 db fun K hK aH=> ?_
    (go_simp;refine (KL.o _ aH).mono ?_;rintro e w5 ⟨rfl,rfl⟩;dsimp only)
    refine hK.out _ _ (.inr ?_) (fun lJ=> ?_)
    ·exact aH
    clear hK K
    try simp only [Act.put,q5,q6,q7]
    refine TB 3 [(10,[]),(11,[]),(12,[])] lJ ?_;intro lJ
    refine R2 13 lJ fun K hK aH=> ?_
    (have sb:=aH.aT PM.o;have fb:World.frozen? _ _=_:=(World.frozen?_of_block (aH.block L.a (bE PM.o) (by simp))).trans HFZ.o;go_simp)
    refine hK.out _ _ (.inl rfl) (fun ml=> ?_)
    clear hK K
    try simp only [Act.put,q5,q6,q7]
    refine fo ?_
    have g5:=G2.o.ut (min Q.head (Q.T.cV level).lits.length)
    rw [GB.o] at g5
    try simp only [ND]
    have h6:=g5.1.keep (Fr.refl [] _).drew
    have f6:=g5.2.drew
    have hF:Fr (L.own w) w _:=aQ.aR dx.o cH.o f6
    have FF:al (oF (.tuple #[]) B L w (.returned (.tuple #[])) _):=⟨rfl,L2,by rw [HB.o];exact h6,dx.o,hF⟩
    go_wp2_with fail
    go_end0
    exact FF.o
   ·obtain ⟨i,rfl⟩:∃i,gk=i+1:=⟨gk-1,by omega⟩
    have tp:i<S.T.lits.length:=by omega
    have hei:((i+1:Nat):Int)-1=(i:Int):=by omega
    rw [hei]
    have DX:decide ((0:Int)≤(i:Int))=true:=decide_eq_true (by omega)
    obtain ⟨x,hx⟩:∃x,S.T.lits[i]! =x:=⟨_,rfl⟩
    have Bf:=HB1.o
    rw [qP tp,hx] at Bf
    have XD:=ae Bf
    have xw:=kM.o.oO tp
    rw [hx] at xw
    obtain ⟨ij,ix,Nc,Nb,XM⟩:=xw
    have KA:=ae (ku wr L1.tL S1.T H1.o.tr (i:Int))
    rw [pR.o.1,pd tp,hx] at KA
    have KV:=ae (jt wr L1.tL S1.T H1.o.tr (tv x))
    obtain ⟨lv,VN⟩:∃lv,S1.T.da (tv x)=lv:=⟨_,rfl⟩
    rw [VN] at KV
    have HLX:=ae VN
    have qx:=EH (x:=x) (by omega)
    obtain ⟨v,hv⟩:∃v:Nat,tv x=v:=⟨(tv x).toNat,by omega⟩
    rw [hv] at ij ix KV qx
    have HV:=ae hv
    have dO:IntKind.i64.wrap (-x)= -x:=IntWalk.i64_in _ (by omega)
    clear Bf hx VN hv HB1
    go_wp2_with fail
    refine KA.o.mono ?_
    rintro e w1 ⟨rfl,rfl⟩
    clear KA
    by_cases hle:lv≤(level:Int)
    ·have rl:decide (lv≤(level:Int))=true:=decide_eq_true hle
     have lQ:al (S1=Q):=by
      have :=XD.o
      rw [Sv.qm (by rw [HLX.o];exact hle)] at this
      exact this
     go_wp2_with fail
     refine KV.o.mono ?_
     rintro e w1 ⟨rfl,rfl⟩
     clear KV
     clear c0 c1 c5 c8
     have KB:=qaa wr L1.tL S1.T H1.o.tr j4.o.Yx (level:Int)
     rw [Int.toNat_natCast,pR.o.1] at KB
     have KB:=ae KB
     have c0:=uT.o
     go_wp2_with fail
     refine KB.o.mono ?_
     clear KB
     rintro e w2 ⟨rfl,Nj,bZ⟩
     obtain ⟨L2,g2,Ub,Ua⟩:=H1.o.qab Nj (ew.co _ _) bZ
     have PU:S1.T.cV level=Q.T.cV level:=by rw [lQ.o]
     rw [pR.o.1.symm.trans (by rw [pR.o.1]) ] at g2
     have G2:al (bf w2 L2 { Q with T:=Q.T.cV level }):=by
      have e1:S.T=Q.T:=by rw [←lQ.o,pR.o.1]
      rw [←e1,←lQ.o]
      exact g2
     have dx:=ae (aQ.aX eG.o Ub dy.o.size)
     have cH:=ae (aQ.aR eG.o dy.o Ua)
     have GB:al (L2.a=L.a):=dx.o.1
     have xE:=G2.o.cells
     rw [GB.o] at xE
     obtain ⟨d0,-,-,-,-,-,-,-,d8,-⟩:=xE
     have Tc:=ae d0
     have PM:=ae d8
     have tX:=G2.o.obj.frozen 8
     rw [GB.o] at tX
     have HFZ:=ae tX
     have KL:=ae (fun W (hW:Fr [] w2 W)=>ko W L2.tL (Q.T.cV level) (G2.o.tr.fr hW (by simp)))
     have ND:(if (Q.T.cV level).lits.length<Q.head then ((Q.T.cV level).lits.length:Int) else (Q.head:Int))=((min Q.head (Q.T.cV level).lits.length:Nat):Int):=by
      rw [Nat.min_def]
      split<;>split<;>omega
     clear c0 Nj bZ g2 Ub Ua PU d0 d8 tX
     go_upto_region 10 with fail
     refine wp_region_noPanic ?_
     refine bp (fun w':World=>Fr [] w2 w') 13 (by kernel_rfl) ((Fr.refl [] w2).drew) (fun db=> ?_)
     refine pf 9 [(0,[]),(1,[]),(2,[]),(3,[]),(4,[4,13]),(5,[]),(6,[]),(7,[]),(8,[8,13])] db (fun w cm=>And.intro (cm.aT PM.o) (cm.aT Tc.o)) ?_;intro db
     refine R2 9 db fun K hK aH=> ?_
     (go_simp;refine (KL.o _ aH).mono ?_;rintro e w5 ⟨rfl,rfl⟩;dsimp only)
     refine hK.out _ _ (.inr ?_) (fun lJ=> ?_)
     ·exact aH
     clear hK K
     try simp only [Act.put,q5,q6,q7]
     refine TB 3 [(10,[]),(11,[]),(12,[])] lJ ?_;intro lJ
     refine R2 13 lJ fun K hK aH=> ?_
     (have sb:=aH.aT PM.o;have fb:World.frozen? _ _=_:=(World.frozen?_of_block (aH.block L.a (bE PM.o) (by simp))).trans HFZ.o;go_simp)
     refine hK.out _ _ (.inl rfl) (fun ml=> ?_)
     clear hK K
     try simp only [Act.put,q5,q6,q7]
     refine fo ?_
     have g5:=G2.o.ut (min Q.head (Q.T.cV level).lits.length)
     rw [GB.o] at g5
     try simp only [ND]
     have h6:=g5.1.keep (Fr.refl [] _).drew
     have f6:=g5.2.drew
     have hF:Fr (L.own w) w _:=aQ.aR dx.o cH.o f6
     have FF:al (oF (.tuple #[]) B L w (.returned (.tuple #[])) _):=⟨rfl,L2,by rw [HB.o];exact h6,dx.o,hF⟩
     go_wp2_with fail
     go_end0
     exact FF.o
    ·have rl:decide (lv≤(level:Int))=false:=decide_eq_false hle
     have qE:al (Sv.dM (level:Int) (S.T.lits.take i).reverse (S1.pO x)=Q):=by
      have :=XD.o
      rw [Sv.wZ (by rw [HLX.o];exact hle)] at this
      exact this
     have hvp:v<S1.phase.length:=by
      rw [j4.o.ph,pR.o.2.1]
      omega
     obtain ⟨gp,TV,sp,fp,h2,bZ⟩:=H1.o.Tm hvp (decide (0<x))
     have c1':=h2.cells.2.1
     rw [Xu.o] at c1'
     have c0':=h2.cells.1
     rw [Xu.o] at c0'
     rw [TV] at c5
     have ZE:(v:Int)<(S1.phase.length:Int):=by omega
     go_wp2_with fail
     refine KV.o.mono ?_
     rintro e w1 ⟨rfl,rfl⟩
     clear KV
     go_upto_region 8 with fail
     obtain ⟨W2,T2⟩:∃W,wr.setCell ⟨gp,v,none⟩ (.bool (decide (0<x)))=W:=⟨_,rfl⟩
     rw [T2] at h2 bZ c0' c1'⊢
     have NZ:S1.H.at_.length≤262145:=by rw [j4.o.hl,pR.o.2.1];omega
     have KP:=ae (vS W2 L1.hL S1.H h2.hp j4.o.hi NZ (v:Int))
     have H2:=ae h2
     have cH:=ae bZ
     clear c0 c1 c5 c8 sp fp T2 h2 bZ TV rl qx dO c0'
     go_wp2_with fail
     refine KP.o.mono ?_
     clear KP
     rintro e w3 ⟨b,rfl,hL3,h3,xD,dD⟩
     obtain ⟨L3,g3,ge3,gf3⟩:=H2.o.heap h3 xD dD
     have G3:al (bf w3 L3 (S1.pO x)):=by
      unfold Sv.pO
      rw [HV.o,Int.toNat_natCast]
      exact g3
     have cZ:al (Fr (L1.own wr) wr w3):=cH.o.trans gf3 (fun k hk=>by
      rw [aQ.bQ] at hk
      rcases bK k wr.heap.size with hl |hl
      ·exact .inl (aQ.bQ.2 ⟨hl,hk.2⟩)
      ·exact .inr hl)
     have GE3:=ae (Sa ge3 cH.o.size)
     clear g3 h3 xD dD ge3 gf3 c1'
     go_wp2
     go_roundg i
     case measure=>omega
     case rel=>exact ⟨S1.pO x,L3,by omega,by go_num,qE.o,⟨pR.o.1,pR.o.2.1,pR.o.2.2⟩,j4.o.pO x,G3.o,aQ.aX eG.o GE3.o dy.o.size,aQ.aR eG.o dy.o cZ.o⟩
theorem I4 (W:World) (n:Nat) (h:n≤maxLen):Ints (W.alloc (.cells (madeCells #[.int .i64 0] n) 3)) (some ⟨W.heap.size,0,none⟩) n (List.replicate n 0):=by
 have :=World.ownsRow_lit (base:=0) (e:=3) (size:=1) W (madeCells #[.int .i64 0] n) n (bH _) h (by rw [size_madeCells];omega)
 rw [toList_madeCells_one] at this
 unfold Ints
 rw [bh,List.map_replicate]
 exact this
end Go.Proofs.YtdgplmgfkliijaaGreat
