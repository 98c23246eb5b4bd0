/- Parts of a proof. -/
import Derived.Test.YtdgplmgfkliijaaGreatGAG
set_option linter.unusedVariables false
set_option linter.unusedSimpArgs false
set_option maxHeartbeats 16000000
set_option maxRecDepth 100000
namespace Go.Proofs.YtdgplmgfkliijaaGreat
open Go.RowKit
def LdP (S1:Sv) (l:List Int) (cj:Int) (L:aQ) (w:World) (e:Ending) (w':World):Prop:=
 ∃(A':Option Addr) (c':Nat),e= .returned (.tuple #[.slice A' l.length c', .int .i64 cj])∧∃L',bf w' L' S1∧L.ext L' w∧Ints w' A' c' l∧(∀k,k∈ap A'→w.heap.size≤k∧(L'.cQ k).1≠L'.id)∧Fr (L.own w) w w'
theorem xR (w:World) (L:aQ) (S:Sv) (h:bf w L S) (m:Nat) (ok:S.Ok m) (n:Nat) (hn:n<S.list.length) (S1:Sv) (l:List Int) (cj:Int) (fS:S.gF n=some (S1,l,cj)):
  Calls Tryz.prog 133 #[.pointer (some ⟨L.a,0,none⟩), .int .i64 n] w (LdP S1 l cj L w):=by
 have nF:=ok.vl
 have sD:=ok.ll
 have hNl:=ok.fQ
 obtain ⟨GE,xe,J2,D3,hl,Fl⟩:∃(GE:Sv.Gr) (xe:Int),Sv.fg (S.T.lits.length+1) ⟨S,[],0,[0]⟩ n 0 S.T.lits.reverse=some (GE,xe)∧GE.S=S1∧
   (Sv.second GE.S.T (GE.bn.set 0 (-xe)).length 1 (GE.bn.set 0 (-xe)) 0).1=l∧(Sv.second GE.S.T (GE.bn.set 0 (-xe)).length 1 (GE.bn.set 0 (-xe)) 0).2=cj:=by
  unfold Sv.gF at fS
  cases hq:Sv.fg (S.T.lits.length+1) ⟨S,[],0,[0]⟩ n 0 S.T.lits.reverse with
  |none=>rw [hq] at fS;cases fS
  |some q=>
   obtain ⟨G,x⟩:=q
   rw [hq] at fS
   simp only [Option.some.injEq,Prod.mk.injEq] at fS
   exact ⟨G,x,rfl,fS.1,fS.2.1,fS.2.2⟩
 have qr:=ae J2
 have P9:=ae D3
 have HL:=ae hl
 have SS:=ae Fl
 have kM:=ae ok
 have Eb:=ae (gY.new h)
 have ab0:al (Sv.m9 S m ⟨S,[],0,[0]⟩):=⟨rfl,rfl,rfl,rfl,ok,fun x hx=>by simp at hx;subst hx;omega,by simp⟩
 have HE0:=ae (L.lY w)
 have DK:al (Fr [] w (((w.alloc (.map #[] 0)).alloc (.cells #[.int .i64 0] 3)).alloc (.cells #[.pointer (some ⟨L.a,0,none⟩), .map (some w.heap.size), .int .i64 0, .slice (some ⟨w.heap.size+1,0,none⟩) 1 1] 171))):=(((Fr.refl [] w).alloc _).alloc _).alloc _
 have c0:=DK.o.aT h.cells.1
 have xz:=@run_makeMap Tryz.prog
 have KL:=ae (ko _ L.tL S.T (h.tr.fr DK.o (by simp)))
 have dO:IntKind.i64.wrap ((S.T.lits.length:Int)-1)=(S.T.lits.length:Int)-1:=IntWalk.i64_in _ (by omega)
 clear J2 D3 hl Fl fS h ok
 go_enter Tryz.func133,Tryz.ntmps133
 go_wp2_with fail
 refine KL.o.mono ?_
 clear KL
 rintro e w1 ⟨rfl,hw⟩
 obtain ⟨W1,jr⟩:∃W1,W1=w1:=⟨_,rfl⟩
 rw [hw] at Eb DK
 have hSZ:w.heap.size+1<w1.heap.size:=by rw [←hw];simp
 clear hw xz c0 jr W1
 go_wp2_with fail
 clear dO
 go_loopg [1,7,8] (S.T.lits.length+1) (fun g x1 x7 x8 wr=>∃(G1:Sv.Gr) (n1 sk:Int) (j:Nat) (L1:aQ) (X1:lB) (nm:Nat),x1= .int .i64 n1∧x7= .int .i64 sk∧x8= .int .i64 ((j:Int)-1)∧j≤S.T.lits.length∧ -1≤n1∧n1<S.list.length∧ -(S.vars:Int)≤sk∧sk≤S.vars∧
   al (Sv.fg g G1 n1 sk (S.T.lits.take j).reverse=some (GE,xe))∧al (gY wr L1 X1 nm G1)∧al (Sv.m9 S m G1)∧al (nm+1048577*g≤300000000000∧G1.bn.length+1048577*g≤300000000001∧G1.fF+1048577*(g:Int)≤300000000000∧(g:Int)-262145≤G1.fF)∧
   al (X1.gb=w.heap.size+1+1)∧al (∀k,k∈X1.own→w.heap.size≤k)∧al (L.ext L1 w)∧al (Fr (L.own w) w wr))
 case atStart=>exact ⟨⟨S,[],0,[0]⟩,n,0,S.T.lits.length,L.shut w,_,0,rfl,rfl,rfl,au _,by omega,by omega,by omega,by omega,by rw [eD];exact qr.o,Eb.o,ab0.o,⟨by omega,by simp;omega,by simp;omega,by simp;omega⟩,rfl,fun k hk=>by simp [lB.own,ap] at hk;omega,HE0.o,DK.o.mono (fun k hk=>by cases hk)⟩
 case round=>
  obtain ⟨G1,n1,sk,j,L1,X1,nm,rfl,rfl,rfl,hj,oZ,ot,amt,ams,HR,HB,HN,UB,KJ,Ma,HE,HF⟩:=hrel
  obtain ⟨f,rfl⟩:∃f,gk=f+1:=⟨gk-1,by
   rcases gk with _ |g
   ·exact absurd HR.o (by rw [Sv.jx];simp)
   ·omega⟩
  have uR:al (Sv.dR f (Sv.dH G1 n1 sk) (S.T.lits.take j).reverse=some (GE,xe)):=by rw [←Sv.kp];exact HR.o
  clear HR qr Eb ab0 HE0 DK
  by_cases hp:0≤n1
  ·obtain ⟨nn,rfl⟩:∃nn:Nat,n1=nn:=⟨n1.toNat,by omega⟩
   have y9:nn<S.list.length:=by omega
   have rR:nn<L1.cs.length:=by rw [HB.o.sv.ni,HN.o.len];exact y9
   obtain ⟨gc,i9,x0,x1,x2⟩:=HB.o.sv.pB rR
   have ed:=HB.o.sv.pD rR
   obtain ⟨tX,-⟩:=HB.o.sv.act rR i9 G1.S.used
   have qE:=ae (HB.o.act rR i9 G1.S.used)
   have xE:(L1.cs.set nn { L1.cs[nn]! with act:=(G1.S.used:Int) })[nn]! ={ L1.cs[nn]! with act:=(G1.S.used:Int) }:=by rw [dT,if_pos ⟨rfl,rR⟩]
   obtain ⟨⟨A,c,ls,b,ac⟩,hx⟩:∃x,L1.cs[nn]! =x:=⟨_,rfl⟩
   rw [hx] at x0 ed xE qE
   simp only [Cw.rc] at x0 ed qE
   have HCS:=ae xE
   have abZ:=ae (HN.o.gf nn)
   have pH:(G1.S.rc nn).lits=ls:=by rw [ed]
   have yq:al (L1.a=L.a):=HE.o.1
   obtain ⟨c0,-,-,c3,-,-,-,-,-,c9,-⟩:=HB.o.sv.cells
   rw [yq.o] at c0 c3 c9
   rw [i9] at c3
   have CG:L1.cs.length=S.list.length:=by rw [HB.o.sv.ni,HN.o.len]
   rw [CG] at c3
   obtain ⟨-,-,-,d3,-⟩:=qE.o.sv.cells
   simp only [aw] at d3
   rw [yq.o,i9,CG] at d3
   have y0:((wr.setCell ⟨gc,nn*3+2,none⟩ (.int .i64 G1.S.used)).drew).cell? ⟨gc,nn*3,none⟩=some (.slice A ls.length c):=by
    have VG:nn<(L1.cs.set nn { A:=A,c:=c,lits:=ls,iY:=b,act:=(G1.S.used:Int) }).length:=by rw [aw];exact rR
    obtain ⟨g',pJ,z0,-,-⟩:=qE.o.sv.pB VG
    rw [i9] at pJ
    obtain rfl :gc=g':=by simpa using pJ
    rw [xE] at z0
    exact z0
   have HRW:al (Ints (wr.setCell ⟨gc,nn*3+2,none⟩ (.int .i64 G1.S.used)).drew A c ls):=by
    have VG:nn<(L1.cs.set nn { A:=A,c:=c,lits:=ls,iY:=b,act:=(G1.S.used:Int) }).length:=by rw [aw];exact rR
    have :=qE.o.sv.pr nn VG
    rw [xE] at this
    exact this
   have HL8:al (∀k,k∈ap A→(L1.cQ k).1=L1.id):=fun k hk=>by
    have :=HB.o.sv.t8 nn rR k (by rw [hx];exact hk)
    rw [this]
   have HT8:al (∀k,k∈ap A→L1.cQ k=(L1.id,8,nn)):=fun k hk=>HB.o.sv.t8 nn rR k (by rw [hx];exact hk)
   have HLB:al (ls.length≤1048576):=by have :=HN.o.ok.lb nn;rw [pH] at this;exact this
   have rO:al (∀x∈ls,-(S.vars:Int)≤x∧x≤S.vars):=fun x hx=>by
    have :=HN.o.ok.lr nn x (by rw [pH];exact hx)
    rw [HN.o.vars] at this
    exact this.2
   have yp:al (Sv.dH G1 nn sk=Sv.meets sk ls { G1 with S:=G1.S.gf nn }):=by
    show _=_
    unfold Sv.dH
    rw [if_pos (by omega),Int.toNat_natCast,pH]
   have cH:al (Fr (L.own w) w (wr.setCell ⟨gc,nn*3+2,none⟩ (.int .i64 G1.S.used)).drew):=(HF.o.setCell (by
    rcases bK gc w.heap.size with hl |hl
    ·left
     rw [aQ.bQ]
     exact ⟨hl,HE.o.2.2 gc hl (by rw [HB.o.sv.t3 gc (by rw [i9];simp [ap])];exact HE.o.2.1)⟩
    ·exact .inr hl) _).drew
   have HGB:al (∀k,k∈X1.own→w.heap.size≤k):=Ma.o
   clear xE ed hx pH i9 CG
   go_wp2
   go_region
   obtain ⟨W2,T2⟩:∃W,(wr.setCell ⟨gc,nn*3+2,none⟩ (.int .i64 G1.S.used)).drew=W:=⟨_,rfl⟩
   rw [T2] at qE d3 y0 HRW cH⊢
   have c0':=qE.o.sv.cells.1
   clear T2 c0 c3 c9 x0 x1 x2 tX HB
   go_wp2_with fail
   clear d3 y0 c0'
   obtain ⟨L2,Wn⟩:∃L2,{ L1 with cs:=L1.cs.set nn { A:=A,c:=c,lits:=ls,iY:=b,act:=(G1.S.used:Int) } }=L2:=⟨_,rfl⟩
   have vP:L2.cQ=L1.cQ∧L2.id=L1.id∧L2.a=L1.a∧L2.hL=L1.hL:=by rw [←Wn];exact ⟨rfl,rfl,rfl,rfl⟩
   have j5:=ae vP
   rw [Wn] at qE
   have dx:al (L.ext L2 w):=⟨vP.2.2.1.trans HE.o.1,vP.2.1.trans HE.o.2.1,fun k hk e=>HE.o.2.2 k hk (by rw [←vP.1];exact e)⟩
   have HRF:al (∀k,k∈ap A→L2.cQ k=(L2.id,8,nn)):=fun k hk=>by rw [vP.1,vP.2.1];exact HT8.o k hk
   have HGS:al (({ G1 with S:=G1.S.gf nn }:Sv.Gr)={ G1 with S:={ G1.S with list:=G1.S.list.set nn { G1.S.rc nn with act:=G1.S.used } } }):=rfl
   clear Wn vP HL8 HT8 HCS HE HF
   go_loopg [46] ls.length (fun g2 x46 wi=>∃(k:Nat) (Gk:Sv.Gr) (Xk:lB) (nk:Nat),k+g2=ls.length∧x46= .int .i64 k∧al (Sv.meets sk (ls.drop k) Gk=Sv.dH G1 nn sk)∧al (gY wi L2 Xk nk Gk)∧al (Sv.m9 S m Gk)∧al (nk≤nm+k∧Gk.bn.length≤G1.bn.length+k∧Gk.fF≤G1.fF+k∧G1.fF≤Gk.fF)∧
     al (Xk.gb=w.heap.size+1+1)∧al (∀k,k∈Xk.own→w.heap.size≤k)∧al (Ints wi A c ls)∧al (Fr (L.own w) w wi))
   case atStart=>exact ⟨0,{ G1 with S:=G1.S.gf nn },X1,nm,by omega,rfl,yp.o.symm,HGS.o▸qE.o,abZ.o,⟨by omega,by simp,by simp,by simp⟩,KJ.o,HGB.o,HRW.o,cH.o⟩
   case round=>
    obtain ⟨k,Gk,Xk,nk,hk,rfl,HM,UA,Gq,DO,xj,ui,HIk,HFk⟩:=hrel
    have HK:=ae hk
    have nI:k≤ls.length:=by omega
    have xB:=HLB.o
    clear hk
    by_cases bM:k<ls.length
    ·obtain ⟨ga,hA,sE⟩:=HIk.o.pos bM
     subst hA
     have cy:=HIk.o.cell bM
     obtain ⟨y,hy⟩:∃y,ls[k]! =y:=⟨_,rfl⟩
     rw [hy] at cy
     have Cn:=rO.o y (by rw [←hy];exact get_mem bM)
     have tZ:ls.drop k=y::ls.drop (k+1):=by
      rw [List.drop_eq_getElem_cons bM,←hy]
      simp only [aa,af bM,ay]
     have Qg:=ae tZ
     obtain ⟨Zt,Zs⟩:=Cn
     clear tZ hy sE
     by_cases Hr:y=sk
     ·have hd:(y==sk)=true:=by simp [Hr]
      have Gt:al (Sv.meets sk (ls.drop (k+1)) Gk=Sv.dH G1 nn sk):=by
       have :=HM.o
       rw [Qg.o,Sv.meets,if_neg (fun h=>h Hr)] at this
       exact this
      clear Hr
      go_wp2
      go_roundg (ls.length-(k+1))
      case measure=>have :=HK.o;omega
      case rel=>exact ⟨k+1,Gk,Xk,nk,by have :=HK.o;omega,by go_num,Gt.o,UA.o,Gq.o,(by have :=DO.o;exact ⟨by omega,by omega,by omega,by omega⟩),xj.o,ui.o,HIk.o,HFk.o⟩
     ·have hd:(y==sk)=false:=by simp [Hr]
      have Gt:al (Sv.meets sk (ls.drop (k+1)) (Sv.meet Gk y)=Sv.dH G1 nn sk):=by
       have :=HM.o
       rw [Qg.o,Sv.meets,if_pos Hr] at this
       exact this
      have KM:=ae (EG wr L2 Xk nk Gk UA.o m Gq.o.ok y (by rw [Gq.o.vars];exact Zt) (by rw [Gq.o.vars];exact Zs) (by have :=DO.o;have :=UB.o;unfold maxLen;omega) (by have :=DO.o;have :=UB.o;omega) (by have :=DO.o;have :=UB.o;omega) (by have :=DO.o;have :=UB.o;omega))
      rw [xj.o] at KM
      clear Hr
      go_wp2_with fail
      refine KM.o.mono ?_
      clear KM cy
      rintro e wj ⟨rfl,Xj,nj,hbj,hnj,hgj,hmj,haj,hfj⟩
      have HBj:=ae hbj
      have HNj:=ae (Gq.o.meet ⟨Zt,Zs⟩)
      have uG:=Sv.yS Gk y
      have aic:al (nj≤nm+(k+1)∧(Sv.meet Gk y).bn.length≤G1.bn.length+(k+1)∧(Sv.meet Gk y).fF≤G1.fF+((k+1:Nat):Int)∧G1.fF≤(Sv.meet Gk y).fF):=by
       have :=DO.o
       exact ⟨by omega,by omega,by omega,by omega⟩
      have hz:w.heap.size≤wr.heap.size:=HFk.o.size
      have agM:al (∀k,k∈Xj.own→w.heap.size≤k):=fun q hq=>by
       simp only [lB.own,av] at hq
       rcases hq with rfl |rfl |hq
       ·exact ui.o _ (by simp [lB.own,hgj])
       ·exact ui.o _ (by simp [lB.own,hmj])
       ·rcases haj q hq with h5 |h5
        ·exact ui.o _ (by simp [lB.own,h5])
        ·omega
      have agO:al (Xj.gb=w.heap.size+1+1):=hgj.trans xj.o
      have HFj:=ae (UA.o.UV dx.o HFk.o ui.o hfj)
      have HIj:al (Ints wj (some ⟨ga,0,none⟩) c ls):=HIk.o.fr hfj (fun q hq hm=>by
       have h5:=HRF.o q hq
       rcases ag.1 hm with h6 |h6
       ·exact UA.o.gh q h6 (by rw [h5])
       ·have h7:=UA.o.sv.t2 q h6
        rw [h5] at h7
        simp at h7)
      clear hbj hnj hgj hmj haj hfj uG hz
      go_wp2
      go_roundg (ls.length-(k+1))
      case measure=>have :=HK.o;omega
      case rel=>exact ⟨k+1,Sv.meet Gk y,Xj,nj,by have :=HK.o;omega,by go_num,Gt.o,HBj.o,HNj.o,aic.o,agO.o,agM.o,HIj.o,HFj.o⟩
    ·obtain rfl :k=ls.length:=by omega
     have HG5:al (Gk=Sv.dH G1 nn sk):=by
      have :=HM.o
      rw [List.drop_length] at this
      exact this
     have DF:al (Sv.dR f Gk (S.T.lits.take j).reverse=some (GE,xe)):=by rw [HG5.o];exact uR.o
     have DP:al (nk+1048577*f≤300000000000∧Gk.bn.length+1048577*f≤300000000001∧Gk.fF+1048577*(f:Int)≤300000000000∧(f:Int)-262144≤Gk.fF):=by
      have :=DO.o
      have :=UB.o
      have :=HLB.o
      exact ⟨by omega,by omega,by omega,by omega⟩
     clear HM uR HG5 DO UB HLB HIk HRF HRW yp HK xB
     obtain ⟨G5,hG5⟩:∃G5,G5=Gk:=⟨_,rfl⟩
     obtain ⟨X5,hX5⟩:∃X5,X5=Xk:=⟨_,rfl⟩
     rw [←hG5] at DF DP UA Gq
     rw [←hX5] at UA xj ui
     clear hG5 hX5 cH abZ qE HGS j5
     go_wp2_with fail
     go_loopg [8] j (fun g3 x8 wt=>g3≤j∧x8= .int .i64 ((g3:Int)-1)∧al (Sv.dR f G5 (S.T.lits.take g3).reverse=some (GE,xe))∧al (Fr [] wr wt))
     case atStart=>exact ⟨au _,rfl,DF.o,Fr.refl _ _⟩
     case round=>
      obtain ⟨Be,rfl,K8,ik⟩:=hrel
      obtain ⟨i,hi⟩:∃i,gk=i+1:=⟨gk-1,by
       rcases gk with _ |g
       ·exact absurd K8.o (by simp [Sv.vy])
       ·omega⟩
      subst hi
      have tp:i<S.T.lits.length:=by omega
      obtain ⟨ij,ix,Nc,Nb,XM⟩:=kM.o.oO tp
      obtain ⟨x,hx⟩:∃x,S.T.lits[i]! =x:=⟨_,rfl⟩
      rw [hx] at ij ix Nc Nb XM
      have HX:=ae hx
      obtain ⟨qx,Ni⟩:=vq Nc Nb nF
      obtain ⟨v,hv⟩:∃v,tv x=v:=⟨_,rfl⟩
      rw [hv] at qx ij ix
      have HV:=ae hv
      have nJ:((i+1:Nat):Int)-1=(i:Int):=by omega
      have Ph:al (Sv.dR f G5 (x::(S.T.lits.take i).reverse)=some (GE,xe)):=by
       have :=K8.o
       rw [qP tp,HX.o] at this
       exact this
      rw [nJ]
      have Lo:=ae (UA.o.keep ik.o)
      have c0:=Lo.o.sv.cells.1
      have g1:=Lo.o.obj.cell 1
      simp only [cN,cw,cg] at g1
      rw [dx.o.1] at c0
      rw [xj.o] at g1
      have e0:=Ext.cell c0
      have e1:=Ext.cell g1
      have KA:=ae (fun u:Ext wr=>ku u.v L2.tL G5.S.T (Lo.o.sv.tr.fr u.fr (by simp)) (i:Int))
      simp only [Gq.o.T,pd tp,HX.o] at KA
      have jL:∀u:Ext wr,(Instr.lookup 169 (.map (some X5.bm)) (.int .i64 v) false).run Tryz.prog u.v= .ok (.bool (decide (v∈G5.seen))) u.v:=fun u=>(Lo.o.sn.keep u.fr).look ⟨by omega,by omega⟩
      clear K8 hx hv nJ
      by_cases uF:v∈G5.seen
      ·have rh:decide (v∈G5.seen)=true:=decide_eq_true uF
       rw [rh] at jL
       have Ye:=ae uF
       clear uF rh
       go_wp2
       refine ax ?_
       repeat (go_big_quiet_step (exact bk (KA.o _)))
       refine gO ?_
       intro w7 oJ
       clear e0 e1 c0 g1 jL
       have GF:=ae (Lo.o.keep oJ.o)
       have rW:al (Fr (L.own w) w w7):=HFk.o.aj ((ik.o.aj oJ.o).mono (fun k hk=>by cases hk))
       clear ik Lo oJ KA
       have c0:=GF.o.sv.cells.1
       rw [dx.o.1] at c0
       have KA:=ae (ku w7 L2.tL G5.S.T GF.o.sv.tr (i:Int))
       rw [Gq.o.T,pd tp,HX.o] at KA
       have KR:=ae (j6 w7 L2.tL G5.S.T GF.o.sv.tr v)
       obtain ⟨rv,kd⟩:∃rv,G5.S.T.fe v=rv:=⟨_,rfl⟩
       rw [kd] at KR
       have HRV:=ae kd
       have iZ:0≤rv∧rv≤S.list.length:=by
        have :=Gq.o.ok.rs v
        rw [kd,Gq.o.len] at this
        exact this
       obtain ⟨aeX,aeW⟩:=iZ
       have mD:IntKind.i64.wrap (rv-1)=rv-1:=IntWalk.i64_in _ (by omega)
       have g2:=GF.o.obj.cell 2
       have fz:=GF.o.obj.frozen 2
       simp only [cN,cw,cg] at g2
       rw [xj.o] at g2 fz
       obtain ⟨op,LD⟩:∃op,G5.fF=op:=⟨_,rfl⟩
       rw [LD] at g2
       have LE: -262145≤op∧op≤300000000000:=by have :=DP.o;omega
       obtain ⟨ae3,ae2⟩:=LE
       have rf:IntKind.i64.wrap (op-1)=op-1:=IntWalk.i64_in _ (by omega)
       have Gp:=ae LD
       have xr:=GF.o.UX (op-1)
       rw [xj.o] at xr
       have xr:=ae xr
       have Li:al (Fr (L.own w) w (w7.setCell ⟨w.heap.size+1+1,2,none⟩ (.int .i64 (op-1)))):=rW.o.setCell (.inr (by simp only;omega)) _
       clear kd LD
       go_wp2_with fail
       refine KA.o.mono ?_
       clear KA
       rintro e w8 ⟨rfl,rfl⟩
       go_wp2_with fail
       refine KR.o.mono ?_
       clear KR
       rintro e w8 ⟨rfl,rfl⟩
       by_cases hz:op-1=0
       ·have hd:((op-1)==(0:Int))=true:=by simp [hz]
        have PH:al (({ G5 with fF:=op-1 }:Sv.Gr)=GE∧x=xe):=by
         have :=Ph.o
         rw [Sv.vz (by rw [HV.o];exact Ye.o) (by rw [Gp.o];exact hz),Gp.o] at this
         show _∧_
         simpa using this
        have SU:=Gq.o.l0
        obtain ⟨ga,o3,RL⟩:=GF.o.ln.pos SU
        have g3:=xr.o.obj.cell 3
        simp only [cN,cw,cg] at g3
        rw [xj.o,o3] at g3
        have ca:=xr.o.ln
        rw [o3] at ca
        have ca0:=ca.cell SU
        have fa0:=ca.frozen 0
        have VU:0<G5.bn.length:=SU
        have uq:=ae (xr.o.ep o3 (-x))
        have tG:al (Fr (L.own w) w ((w7.setCell ⟨w.heap.size+1+1,2,none⟩ (.int .i64 (op-1))).setCell ⟨ga,0,none⟩ (.int .i64 (-x)))):=Li.o.setCell (.inr (ui.o ga (by simp [lB.own,o3,ap]))) _
        have qD:=ae o3
        have Xg:al (∀y∈G5.bn.set 0 (-x),-(S.vars:Int)≤y∧y≤S.vars):=fun y hy=>by
         rcases List.mem_or_eq_of_mem_set hy with h5 |h5
         ·exact Gq.o.lr y h5
         ·rw [h5];omega
        obtain ⟨lg,Fk⟩:∃lg,G5.bn.length=lg:=⟨_,rfl⟩
        have Bp:=ae Fk
        rw [Fk] at g3 VU
        clear hz o3 RL ca SU Fk c0
        go_wp2_with fail
        obtain ⟨w9,tR⟩:∃w9,(w7.setCell ⟨w.heap.size+1+1,2,none⟩ (.int .i64 (op-1))).setCell ⟨ga,0,none⟩ (.int .i64 (-x))=w9:=⟨_,rfl⟩
        rw [tR] at uq tG⊢
        have g3:=uq.o.obj.cell 3
        simp only [cN,cw,cg] at g3
        rw [xj.o,qD.o,aw,Bp.o] at g3
        have qs:=ae g3
        have KS:=ae (fun W (hW:Fr [] w9 W)=>qL W L2 G5.S (uq.o.keep hW).sv m Gq.o.ok X5.A X5.c (G5.bn.set 0 (-x)) (uq.o.keep hW).ln uq.o.f3 (by rw [Gq.o.vars];exact Xg.o) (by rw [aw];have :=DP.o;omega))
        rw [qD.o,dx.o.1,aw,Bp.o] at KS
        have Pn:al (w.heap.size+1+1∉ap (some (⟨ga,0,none⟩:Addr))):=by
         show ¬_
         intro hk
         have :=(uq.o.d3 _ (by rw [qD.o];exact hk)).1
         exact this xj.o.symm
        clear tR ca0 fa0 g2 fz mD rf xr Li
        clear g3
        refine wp_region_noPanic ?_
        refine bp (fun w':World=>Fr [] w9 w') 9 (by kernel_rfl) ((Fr.refl [] w9).drew) (fun db=> ?_)
        refine pf 8 [(0,[]),(1,[]),(2,[]),(4,[]),(5,[]),(6,[]),(7,[]),(8,[8,9])] db (fun w cm=>cm.aT qs.o) ?_;intro db
        have aH:=db.resolve_left (by decide)
        refine aU (rs:=[3,9]) (by kernel_rfl) (by simp) ?_
        refine bY.cons (o:= ?Za) ?JE ?Ah ?_
        case JE=>rfl
        case Ah=>
         intro K hK
         first | (have s3:=aH.aT qs.o;go_simp) |go_simp
         refine hK.out _ _ (.inr ?_) (fun P2=> ?_)
         ·exact aH
         clear hK K
         try simp only [Act.put,q5,q6,q7]
         refine R2 9 P2 fun K hK aH=> ?_
         (go_simp;refine (KS.o _ aH).mono ?_;rintro e w5 ⟨rfl,uH,eu⟩;have X8:=eu.bD Pn.o (aH.aT qs.o);have Gz:=ae uH;have GG:=ae ((uq.o.keep aH).sv.fr eu (fun k hk _=>uq.o.f3 k (by rw [qD.o];exact hk)));have xp:al (Fr (L.own w) w w5):=(tG.o.aj (aH.mono (fun k hk=>by cases hk))).trans eu (fun k hk=> .inr (ui.o k (by rw [←qD.o] at hk;simp [lB.own,hk])));have W3:al ((Sv.second G5.S.T lg 1 (G5.bn.set 0 (-x)) 0).1.length=lg):=(by rw [fP,aw];exact Bp.o);clear uH eu;dsimp only)
         refine hK.out _ _ (.inl rfl) (fun lJ=> ?_)
         clear hK K
         try simp only [Act.put,q5,q6,q7]
         refine R1 (i:=10) (o:= ?Y9) (by kernel_rfl) (by rfl) ?_
         intro K hK
         go_simp
         refine hK.out _ _ (.inl rfl) (fun mn=> ?_)
         clear hK K
         try simp only [Act.put,q5,q6,q7]
         refine R1 (i:=11) (o:= ?Y8) (by kernel_rfl) (by rfl) ?_
         intro K hK
         go_simp
         refine hK.out _ _ (.inl rfl) (fun jC=> ?_)
         clear hK K
         try simp only [Act.put,q5,q6,q7]
         refine fo ?_
         have FF:al (LdP S1 l cj L w (.returned (.tuple #[.slice (some ⟨ga,0,none⟩) lg X5.c, .int .i64 (Sv.second G5.S.T lg 1 (G5.bn.set 0 (-x)) 0).2])) w5):=by
          obtain ⟨h5,h6⟩:=PH.o
          have hz9:w.heap.size≤w9.heap.size:=tG.o.size
          have e1:(GE.bn.set 0 (-xe)).length=lg:=by rw [←h5,aw];exact Bp.o
          have e2:Sv.second GE.S.T (GE.bn.set 0 (-xe)).length 1 (GE.bn.set 0 (-xe)) 0=Sv.second G5.S.T lg 1 (G5.bn.set 0 (-x)) 0:=by rw [e1,←h5,h6]
          have e3:l.length=lg:=by
           rw [←HL.o,e2]
           exact W3.o
          refine ⟨some ⟨ga,0,none⟩,X5.c,?_,L2,?_,dx.o,?_,fun k hk=> ?_,?_⟩
          ·rw [e3,←SS.o,e2]
          ·rw [←P9.o,←h5]
           exact GG.o
          ·rw [←HL.o,e2]
           exact Gz.o
          ·exact ⟨ui.o k (by rw [←qD.o] at hk;simp [lB.own,hk]),uq.o.f3 k (by rw [qD.o];exact hk)⟩
          ·exact xp.o
         go_wp2
         go_ret2
         exact FF.o
        refine bY.cons (o:= ?Y7) ?JD ?Q0 bY.nil
        case JD=>rfl
        intro K hK
        (go_simp;refine (KS.o _ aH).mono ?_;rintro e w5 ⟨rfl,uH,eu⟩;have X8:=eu.bD Pn.o (aH.aT qs.o);have Gz:=ae uH;have GG:=ae ((uq.o.keep aH).sv.fr eu (fun k hk _=>uq.o.f3 k (by rw [qD.o];exact hk)));have xp:al (Fr (L.own w) w w5):=(tG.o.aj (aH.mono (fun k hk=>by cases hk))).trans eu (fun k hk=> .inr (ui.o k (by rw [←qD.o] at hk;simp [lB.own,hk])));have W3:al ((Sv.second G5.S.T lg 1 (G5.bn.set 0 (-x)) 0).1.length=lg):=(by rw [fP,aw];exact Bp.o);clear uH eu;dsimp only)
        refine hK.out _ _ (.inl rfl) (fun P2=> ?_)
        clear hK K
        try simp only [Act.put,q5,q6,q7]
        refine R1 (i:=3) (o:= ?Y6) (by kernel_rfl) (by rfl) ?_
        intro K hK
        first | (have s3:=aH.aT qs.o;go_simp) |go_simp
        refine hK.out _ _ (.inl rfl) (fun lJ=> ?_)
        clear hK K
        try simp only [Act.put,q5,q6,q7]
        refine R1 (i:=10) (o:= ?Y5) (by kernel_rfl) (by rfl) ?_
        intro K hK
        go_simp
        refine hK.out _ _ (.inl rfl) (fun mn=> ?_)
        clear hK K
        try simp only [Act.put,q5,q6,q7]
        refine R1 (i:=11) (o:= ?Y4) (by kernel_rfl) (by rfl) ?_
        intro K hK
        go_simp
        refine hK.out _ _ (.inl rfl) (fun jC=> ?_)
        clear hK K
        try simp only [Act.put,q5,q6,q7]
        refine fo ?_
        have FF:al (LdP S1 l cj L w (.returned (.tuple #[.slice (some ⟨ga,0,none⟩) lg X5.c, .int .i64 (Sv.second G5.S.T lg 1 (G5.bn.set 0 (-x)) 0).2])) w5):=by
         obtain ⟨h5,h6⟩:=PH.o
         have hz9:w.heap.size≤w9.heap.size:=tG.o.size
         have e1:(GE.bn.set 0 (-xe)).length=lg:=by rw [←h5,aw];exact Bp.o
         have e2:Sv.second GE.S.T (GE.bn.set 0 (-xe)).length 1 (GE.bn.set 0 (-xe)) 0=Sv.second G5.S.T lg 1 (G5.bn.set 0 (-x)) 0:=by rw [e1,←h5,h6]
         have e3:l.length=lg:=by
          rw [←HL.o,e2]
          exact W3.o
         refine ⟨some ⟨ga,0,none⟩,X5.c,?_,L2,?_,dx.o,?_,fun k hk=> ?_,?_⟩
         ·rw [e3,←SS.o,e2]
         ·rw [←P9.o,←h5]
          exact GG.o
         ·rw [←HL.o,e2]
          exact Gz.o
         ·exact ⟨ui.o k (by rw [←qD.o] at hk;simp [lB.own,hk]),uq.o.f3 k (by rw [qD.o];exact hk)⟩
         ·exact xp.o
        go_wp2
        go_ret2
        exact FF.o
       ·have hd:((op-1)==(0:Int))=false:=by simp [hz]
        have HGO:al (Sv.fg f { G5 with fF:=op-1 } (rv-1) x (S.T.lits.take i).reverse=some (GE,xe)):=by
         have :=Ph.o
         rw [Sv.yU (by rw [HV.o];exact Ye.o) (by rw [Gp.o];exact hz),Gp.o,HV.o,HRV.o] at this
         exact this
        have yY:IntKind.i64.wrap ((i:Int)-1)=(i:Int)-1:=IntWalk.i64_in _ (by omega)
        clear hz
        go_wp2
        go_roundg f
        case measure=>omega
        case rel=>exact ⟨_,rv-1,x,i,L2,X5,nk,rfl,rfl,rfl,by omega,by omega,by omega,Nc,Nb,HGO.o,xr.o,Gq.o.fF _,(by have :=DP.o;have :=Gp.o;exact ⟨by omega,by simp only;omega,by simp only;omega,by simp only;omega⟩),xj.o,ui.o,dx.o,Li.o⟩
      ·have rh:decide (v∈G5.seen)=false:=decide_eq_false uF
       rw [rh] at jL
       have HR7:al (Sv.dR f G5 (S.T.lits.take i).reverse=some (GE,xe)):=by
        have :=Ph.o
        rw [Sv.s8 (by rw [HV.o];exact uF)] at this
        exact this
       have yY:IntKind.i64.wrap ((i:Int)-1)=(i:Int)-1:=IntWalk.i64_in _ (by omega)
       clear uF rh
       go_wp2
       refine ax ?_
       repeat (go_big_quiet_step (exact bk (KA.o _)))
       refine gO ?_
       intro w7 oJ
       clear e0 e1 c0 g1 jL KA
       go_wp2
       go_roundg i
       case measure=>omega
       case rel=>exact ⟨by omega,by go_num,HR7.o,ik.o.aj oJ.o⟩
  ·have afe:n1= -1:=by omega
   subst afe
   have DF:al (Sv.dR f G1 (S.T.lits.take j).reverse=some (GE,xe)):=by
    have :=uR.o
    unfold Sv.dH at this
    rw [if_neg (by omega)] at this
    exact this
   have DP:al (nm+1048577*f≤300000000000∧G1.bn.length+1048577*f≤300000000001∧G1.fF+1048577*(f:Int)≤300000000000∧(f:Int)-262144≤G1.fF):=by
    have :=UB.o
    exact ⟨by omega,by omega,by omega,by omega⟩
   clear uR UB
   go_wp2_with fail
   go_loopg [8] j (fun g3 x8 wt=>g3≤j∧x8= .int .i64 ((g3:Int)-1)∧al (Sv.dR f G1 (S.T.lits.take g3).reverse=some (GE,xe))∧al (Fr [] wr wt))
   case atStart=>exact ⟨au _,rfl,DF.o,Fr.refl _ _⟩
   case round=>
    obtain ⟨Be,rfl,K8,ik⟩:=hrel
    obtain ⟨i,hi⟩:∃i,gk=i+1:=⟨gk-1,by
     rcases gk with _ |g
     ·exact absurd K8.o (by simp [Sv.vy])
     ·omega⟩
    subst hi
    have tp:i<S.T.lits.length:=by omega
    obtain ⟨ij,ix,Nc,Nb,XM⟩:=kM.o.oO tp
    obtain ⟨x,hx⟩:∃x,S.T.lits[i]! =x:=⟨_,rfl⟩
    rw [hx] at ij ix Nc Nb XM
    have HX:=ae hx
    obtain ⟨qx,Ni⟩:=vq Nc Nb nF
    obtain ⟨v,hv⟩:∃v,tv x=v:=⟨_,rfl⟩
    rw [hv] at qx ij ix
    have HV:=ae hv
    have nJ:((i+1:Nat):Int)-1=(i:Int):=by omega
    have Ph:al (Sv.dR f G1 (x::(S.T.lits.take i).reverse)=some (GE,xe)):=by
     have :=K8.o
     rw [qP tp,HX.o] at this
     exact this
    rw [nJ]
    have Lo:=ae (HB.o.keep ik.o)
    have c0:=Lo.o.sv.cells.1
    have g1:=Lo.o.obj.cell 1
    simp only [cN,cw,cg] at g1
    rw [HE.o.1] at c0
    rw [KJ.o] at g1
    have e0:=Ext.cell c0
    have e1:=Ext.cell g1
    have KA:=ae (fun u:Ext wr=>ku u.v L1.tL G1.S.T (Lo.o.sv.tr.fr u.fr (by simp)) (i:Int))
    simp only [HN.o.T,pd tp,HX.o] at KA
    have jL:∀u:Ext wr,(Instr.lookup 169 (.map (some X1.bm)) (.int .i64 v) false).run Tryz.prog u.v= .ok (.bool (decide (v∈G1.seen))) u.v:=fun u=>(Lo.o.sn.keep u.fr).look ⟨by omega,by omega⟩
    clear K8 hx hv nJ
    by_cases uF:v∈G1.seen
    ·have rh:decide (v∈G1.seen)=true:=decide_eq_true uF
     rw [rh] at jL
     have Ye:=ae uF
     clear uF rh
     go_wp2
     refine ax ?_
     repeat (go_big_quiet_step (exact bk (KA.o _)))
     refine gO ?_
     intro w7 oJ
     clear e0 e1 c0 g1 jL
     have GF:=ae (Lo.o.keep oJ.o)
     have rW:al (Fr (L.own w) w w7):=HF.o.aj ((ik.o.aj oJ.o).mono (fun k hk=>by cases hk))
     clear ik Lo oJ KA
     have c0:=GF.o.sv.cells.1
     rw [HE.o.1] at c0
     have KA:=ae (ku w7 L1.tL G1.S.T GF.o.sv.tr (i:Int))
     rw [HN.o.T,pd tp,HX.o] at KA
     have KR:=ae (j6 w7 L1.tL G1.S.T GF.o.sv.tr v)
     obtain ⟨rv,kd⟩:∃rv,G1.S.T.fe v=rv:=⟨_,rfl⟩
     rw [kd] at KR
     have HRV:=ae kd
     have iZ:0≤rv∧rv≤S.list.length:=by
      have :=HN.o.ok.rs v
      rw [kd,HN.o.len] at this
      exact this
     obtain ⟨aeX,aeW⟩:=iZ
     have mD:IntKind.i64.wrap (rv-1)=rv-1:=IntWalk.i64_in _ (by omega)
     have g2:=GF.o.obj.cell 2
     have fz:=GF.o.obj.frozen 2
     simp only [cN,cw,cg] at g2
     rw [KJ.o] at g2 fz
     obtain ⟨op,LD⟩:∃op,G1.fF=op:=⟨_,rfl⟩
     rw [LD] at g2
     have LE: -262145≤op∧op≤300000000000:=by have :=DP.o;omega
     obtain ⟨ae3,ae2⟩:=LE
     have rf:IntKind.i64.wrap (op-1)=op-1:=IntWalk.i64_in _ (by omega)
     have Gp:=ae LD
     have xr:=GF.o.UX (op-1)
     rw [KJ.o] at xr
     have xr:=ae xr
     have Li:al (Fr (L.own w) w (w7.setCell ⟨w.heap.size+1+1,2,none⟩ (.int .i64 (op-1)))):=rW.o.setCell (.inr (by simp only;omega)) _
     clear kd LD
     go_wp2_with fail
     refine KA.o.mono ?_
     clear KA
     rintro e w8 ⟨rfl,rfl⟩
     go_wp2_with fail
     refine KR.o.mono ?_
     clear KR
     rintro e w8 ⟨rfl,rfl⟩
     by_cases hz:op-1=0
     ·have hd:((op-1)==(0:Int))=true:=by simp [hz]
      have PH:al (({ G1 with fF:=op-1 }:Sv.Gr)=GE∧x=xe):=by
       have :=Ph.o
       rw [Sv.vz (by rw [HV.o];exact Ye.o) (by rw [Gp.o];exact hz),Gp.o] at this
       show _∧_
       simpa using this
      have SU:=HN.o.l0
      obtain ⟨ga,o3,RL⟩:=GF.o.ln.pos SU
      have g3:=xr.o.obj.cell 3
      simp only [cN,cw,cg] at g3
      rw [KJ.o,o3] at g3
      have ca:=xr.o.ln
      rw [o3] at ca
      have ca0:=ca.cell SU
      have fa0:=ca.frozen 0
      have VU:0<G1.bn.length:=SU
      have uq:=ae (xr.o.ep o3 (-x))
      have tG:al (Fr (L.own w) w ((w7.setCell ⟨w.heap.size+1+1,2,none⟩ (.int .i64 (op-1))).setCell ⟨ga,0,none⟩ (.int .i64 (-x)))):=Li.o.setCell (.inr (Ma.o ga (by simp [lB.own,o3,ap]))) _
      have qD:=ae o3
      have Xg:al (∀y∈G1.bn.set 0 (-x),-(S.vars:Int)≤y∧y≤S.vars):=fun y hy=>by
       rcases List.mem_or_eq_of_mem_set hy with h5 |h5
       ·exact HN.o.lr y h5
       ·rw [h5];omega
      obtain ⟨lg,Fk⟩:∃lg,G1.bn.length=lg:=⟨_,rfl⟩
      have Bp:=ae Fk
      rw [Fk] at g3 VU
      clear hz o3 RL ca SU Fk c0
      go_wp2_with fail
      obtain ⟨w9,tR⟩:∃w9,(w7.setCell ⟨w.heap.size+1+1,2,none⟩ (.int .i64 (op-1))).setCell ⟨ga,0,none⟩ (.int .i64 (-x))=w9:=⟨_,rfl⟩
      rw [tR] at uq tG⊢
      have g3:=uq.o.obj.cell 3
      simp only [cN,cw,cg] at g3
      rw [KJ.o,qD.o,aw,Bp.o] at g3
      have qs:=ae g3
      have KS:=ae (fun W (hW:Fr [] w9 W)=>qL W L1 G1.S (uq.o.keep hW).sv m HN.o.ok X1.A X1.c (G1.bn.set 0 (-x)) (uq.o.keep hW).ln uq.o.f3 (by rw [HN.o.vars];exact Xg.o) (by rw [aw];have :=DP.o;omega))
      rw [qD.o,HE.o.1,aw,Bp.o] at KS
      have Pn:al (w.heap.size+1+1∉ap (some (⟨ga,0,none⟩:Addr))):=by
       show ¬_
       intro hk
       have :=(uq.o.d3 _ (by rw [qD.o];exact hk)).1
       exact this KJ.o.symm
      clear tR ca0 fa0 g2 fz mD rf xr Li
      clear g3
      refine wp_region_noPanic ?_
      refine bp (fun w':World=>Fr [] w9 w') 9 (by kernel_rfl) ((Fr.refl [] w9).drew) (fun db=> ?_)
      refine pf 8 [(0,[]),(1,[]),(2,[]),(4,[]),(5,[]),(6,[]),(7,[]),(8,[8,9])] db (fun w cm=>cm.aT qs.o) ?_;intro db
      have aH:=db.resolve_left (by decide)
      refine aU (rs:=[3,9]) (by kernel_rfl) (by simp) ?_
      refine bY.cons (o:= ?Y3) ?JC ?Ag ?_
      case JC=>rfl
      case Ag=>
       intro K hK
       first | (have s3:=aH.aT qs.o;go_simp) |go_simp
       refine hK.out _ _ (.inr ?_) (fun P2=> ?_)
       ·exact aH
       clear hK K
       try simp only [Act.put,q5,q6,q7]
       refine R2 9 P2 fun K hK aH=> ?_
       (go_simp;refine (KS.o _ aH).mono ?_;rintro e w5 ⟨rfl,uH,eu⟩;have X8:=eu.bD Pn.o (aH.aT qs.o);have Gz:=ae uH;have GG:=ae ((uq.o.keep aH).sv.fr eu (fun k hk _=>uq.o.f3 k (by rw [qD.o];exact hk)));have xp:al (Fr (L.own w) w w5):=(tG.o.aj (aH.mono (fun k hk=>by cases hk))).trans eu (fun k hk=> .inr (Ma.o k (by rw [←qD.o] at hk;simp [lB.own,hk])));have W3:al ((Sv.second G1.S.T lg 1 (G1.bn.set 0 (-x)) 0).1.length=lg):=(by rw [fP,aw];exact Bp.o);clear uH eu;dsimp only)
       refine hK.out _ _ (.inl rfl) (fun lJ=> ?_)
       clear hK K
       try simp only [Act.put,q5,q6,q7]
       refine R1 (i:=10) (o:= ?Y2) (by kernel_rfl) (by rfl) ?_
       intro K hK
       go_simp
       refine hK.out _ _ (.inl rfl) (fun mn=> ?_)
       clear hK K
       try simp only [Act.put,q5,q6,q7]
       refine R1 (i:=11) (o:= ?Y1) (by kernel_rfl) (by rfl) ?_
       intro K hK
       go_simp
       refine hK.out _ _ (.inl rfl) (fun jC=> ?_)
       clear hK K
       try simp only [Act.put,q5,q6,q7]
       refine fo ?_
       have FF:al (LdP S1 l cj L w (.returned (.tuple #[.slice (some ⟨ga,0,none⟩) lg X1.c, .int .i64 (Sv.second G1.S.T lg 1 (G1.bn.set 0 (-x)) 0).2])) w5):=by
        obtain ⟨h5,h6⟩:=PH.o
        have hz9:w.heap.size≤w9.heap.size:=tG.o.size
        have e1:(GE.bn.set 0 (-xe)).length=lg:=by rw [←h5,aw];exact Bp.o
        have e2:Sv.second GE.S.T (GE.bn.set 0 (-xe)).length 1 (GE.bn.set 0 (-xe)) 0=Sv.second G1.S.T lg 1 (G1.bn.set 0 (-x)) 0:=by rw [e1,←h5,h6]
        have e3:l.length=lg:=by
         rw [←HL.o,e2]
         exact W3.o
        refine ⟨some ⟨ga,0,none⟩,X1.c,?_,L1,?_,HE.o,?_,fun k hk=> ?_,?_⟩
        ·rw [e3,←SS.o,e2]
        ·rw [←P9.o,←h5]
         exact GG.o
        ·rw [←HL.o,e2]
         exact Gz.o
        ·exact ⟨Ma.o k (by rw [←qD.o] at hk;simp [lB.own,hk]),uq.o.f3 k (by rw [qD.o];exact hk)⟩
        ·exact xp.o
       go_wp2
       go_ret2
       exact FF.o
      refine bY.cons (o:= ?Y0) ?JB ?QZ bY.nil
      case JB=>rfl
      intro K hK
      (go_simp;refine (KS.o _ aH).mono ?_;rintro e w5 ⟨rfl,uH,eu⟩;have X8:=eu.bD Pn.o (aH.aT qs.o);have Gz:=ae uH;have GG:=ae ((uq.o.keep aH).sv.fr eu (fun k hk _=>uq.o.f3 k (by rw [qD.o];exact hk)));have xp:al (Fr (L.own w) w w5):=(tG.o.aj (aH.mono (fun k hk=>by cases hk))).trans eu (fun k hk=> .inr (Ma.o k (by rw [←qD.o] at hk;simp [lB.own,hk])));have W3:al ((Sv.second G1.S.T lg 1 (G1.bn.set 0 (-x)) 0).1.length=lg):=(by rw [fP,aw];exact Bp.o);clear uH eu;dsimp only)
      refine hK.out _ _ (.inl rfl) (fun P2=> ?_)
      clear hK K
      try simp only [Act.put,q5,q6,q7]
      refine R1 (i:=3) (o:= ?YZ) (by kernel_rfl) (by rfl) ?_
      intro K hK
      first | (have s3:=aH.aT qs.o;go_simp) |go_simp
      refine hK.out _ _ (.inl rfl) (fun lJ=> ?_)
      clear hK K
      try simp only [Act.put,q5,q6,q7]
      refine R1 (i:=10) (o:= ?YX) (by kernel_rfl) (by rfl) ?_
      intro K hK
      go_simp
      refine hK.out _ _ (.inl rfl) (fun mn=> ?_)
      clear hK K
      try simp only [Act.put,q5,q6,q7]
      refine R1 (i:=11) (o:= ?YW) (by kernel_rfl) (by rfl) ?_
      intro K hK
      go_simp
      refine hK.out _ _ (.inl rfl) (fun jC=> ?_)
      clear hK K
      try simp only [Act.put,q5,q6,q7]
      refine fo ?_
      have FF:al (LdP S1 l cj L w (.returned (.tuple #[.slice (some ⟨ga,0,none⟩) lg X1.c, .int .i64 (Sv.second G1.S.T lg 1 (G1.bn.set 0 (-x)) 0).2])) w5):=by
       obtain ⟨h5,h6⟩:=PH.o
       have hz9:w.heap.size≤w9.heap.size:=tG.o.size
       have e1:(GE.bn.set 0 (-xe)).length=lg:=by rw [←h5,aw];exact Bp.o
       have e2:Sv.second GE.S.T (GE.bn.set 0 (-xe)).length 1 (GE.bn.set 0 (-xe)) 0=Sv.second G1.S.T lg 1 (G1.bn.set 0 (-x)) 0:=by rw [e1,←h5,h6]
       have e3:l.length=lg:=by
        rw [←HL.o,e2]
        exact W3.o
       refine ⟨some ⟨ga,0,none⟩,X1.c,?_,L1,?_,HE.o,?_,fun k hk=> ?_,?_⟩
       ·rw [e3,←SS.o,e2]
       ·rw [←P9.o,←h5]
        exact GG.o
       ·rw [←HL.o,e2]
        exact Gz.o
       ·exact ⟨Ma.o k (by rw [←qD.o] at hk;simp [lB.own,hk]),uq.o.f3 k (by rw [qD.o];exact hk)⟩
       ·exact xp.o
      go_wp2
      go_ret2
      exact FF.o
     ·have hd:((op-1)==(0:Int))=false:=by simp [hz]
      have HGO:al (Sv.fg f { G1 with fF:=op-1 } (rv-1) x (S.T.lits.take i).reverse=some (GE,xe)):=by
       have :=Ph.o
       rw [Sv.yU (by rw [HV.o];exact Ye.o) (by rw [Gp.o];exact hz),Gp.o,HV.o,HRV.o] at this
       exact this
      have yY:IntKind.i64.wrap ((i:Int)-1)=(i:Int)-1:=IntWalk.i64_in _ (by omega)
      clear hz
      go_wp2
      go_roundg f
      case measure=>omega
      case rel=>exact ⟨_,rv-1,x,i,L1,X1,nm,rfl,rfl,rfl,by omega,by omega,by omega,Nc,Nb,HGO.o,xr.o,HN.o.fF _,(by have :=DP.o;have :=Gp.o;exact ⟨by omega,by simp only;omega,by simp only;omega,by simp only;omega⟩),KJ.o,Ma.o,HE.o,Li.o⟩
    ·have rh:decide (v∈G1.seen)=false:=decide_eq_false uF
     rw [rh] at jL
     have HR7:al (Sv.dR f G1 (S.T.lits.take i).reverse=some (GE,xe)):=by
      have :=Ph.o
      rw [Sv.s8 (by rw [HV.o];exact uF)] at this
      exact this
     have yY:IntKind.i64.wrap ((i:Int)-1)=(i:Int)-1:=IntWalk.i64_in _ (by omega)
     clear uF rh
     go_wp2
     refine ax ?_
     repeat (go_big_quiet_step (exact bk (KA.o _)))
     refine gO ?_
     intro w7 oJ
     clear e0 e1 c0 g1 jL KA
     go_wp2
     go_roundg i
     case measure=>omega
     case rel=>exact ⟨by omega,by go_num,HR7.o,ik.o.aj oJ.o⟩
namespace Sv
structure P6 (S:Sv) (G:Gr):Prop where
 nd:G.seen.Nodup
 sn:∀v∈G.seen,1≤v∧v≤S.vars
 ln:G.bn.length≤G.seen.length+1
 lt:∀x∈G.bn.tail,x≠0
theorem QO {S:Sv} {m:Nat} (ok:S.Ok m) {v:Int} (h:¬S.T.da v≤0):1≤v∧v≤S.vars:=by
 obtain ⟨R,hR⟩:=ok.tr
 unfold Tr.da at h
 split at h
 ·rename_i hb
  have :=Tr.dj hb
  rw [hR.size] at this
  omega
 ·omega
theorem EK {S:Sv} {m:Nat} (ok:S.Ok m) (v:Int): -1≤S.T.da v∧S.T.da v≤S.T.levels.length:=by
 obtain ⟨R,hR⟩:=ok.tr
 rw [hR.da]
 cases hk:look R v with
 |none=>simp only;omega
 |some e=>
  have :=hR.bound e (il hk).1
  simp only
  omega
theorem zB {l:Int} (h:1≤tv l):l≠0:=by
 rintro rfl
 rw [mH (by omega)] at h
 omega
theorem qad {l:List Int} {x:Int} (h:0<l.length):(l++[x]).tail=l.tail++[x]:=by
 cases l with
 |nil=>simp at h
 |cons y r=>rfl
theorem P6.meet {S:Sv} {m:Nat} {G:Gr} (h:P6 S G) (hn:m9 S m G) (l:Int):P6 S (meet G l):=by
 by_cases h1:tv l∈G.seen∨G.S.T.da (tv l)≤0
 ·rw [iK h1];exact h
 ·have Hr:tv l∉G.seen:=fun e=>h1 (.inl e)
  have hv:=QO hn.ok (v:=tv l) (fun e=>h1 (.inr e))
  rw [hn.vars] at hv
  have tU:(tv l::G.seen).Nodup:=eB.2 ⟨Hr,h.nd⟩
  have uF:∀v∈tv l::G.seen,1≤v∧v≤S.vars:=fun v hm=>by
   rcases av.1 hm with rfl |hm
   ·exact hv
   ·exact h.sn v hm
  have Ht:=h.ln
  by_cases h2:G.S.T.da (tv l)=G.S.T.levels.length
  ·rw [fG h1 h2]
   exact ⟨tU,uF,by show G.bn.length≤(tv l::G.seen).length+1;simp;omega,h.lt⟩
  ·rw [gR h1 h2]
   refine ⟨tU,uF,by show (G.bn++[l]).length≤(tv l::G.seen).length+1;simp;omega,?_⟩
   show ∀x∈(G.bn++[l]).tail,x≠0
   rw [qad hn.l0]
   intro x hx
   rcases ag.1 hx with hx |hx
   ·exact h.lt x hx
   ·simp at hx
    rw [hx]
    exact zB hv.1
theorem sq {S:Sv} {m:Nat} (skip:Int):∀(ls:List Int) (G:Gr),(∀x∈ls,-(S.vars:Int)≤x∧x≤S.vars)→P6 S G→m9 S m G→P6 S (meets skip ls G)∧m9 S m (meets skip ls G)
 |[],G,hl,h1,h2=>⟨h1,h2⟩
 |l::r,G,hl,h1,h2=>by
  rw [meets]
  split
  ·exact sq skip r _ (fun x hx=>hl x (aP _ hx)) (h1.meet h2 l) (h2.meet (hl l (by simp)))
  ·exact sq skip r _ (fun x hx=>hl x (aP _ hx)) h1 h2
theorem EO {S:Sv} {m:Nat} {G:Gr} (n skip:Int) (h1:P6 S G) (h2:m9 S m G):P6 S (dH G n skip)∧m9 S m (dH G n skip):=by
 unfold dH
 split
 ·refine sq skip _ _ (fun x hx=> ?_) ⟨h1.nd,h1.sn,h1.ln,h1.lt⟩ (h2.gf n.toNat)
  have :=h2.ok.lr n.toNat x hx
  rw [h2.vars] at this
  exact this.2
 ·exact ⟨h1,h2⟩
theorem vx {S:Sv} {m:Nat}:∀(f:Nat) (G:Gr) (n skip:Int) (rest:List Int) (GE:Gr) (xe:Int),fg f G n skip rest=some (GE,xe)→P6 S G→m9 S m G→P6 S GE∧m9 S m GE∧xe∈rest
 |0,G,n,skip,rest,GE,xe,h,_,_=>by rw [jx] at h;cases h
 |f+1,G,n,skip,rest,GE,xe,h,h1,h2=>by
  rw [kp] at h
  obtain ⟨k1,k2⟩:=EO n skip h1 h2
  generalize dH G n skip=G1 at h k1 k2
  unfold dR at h
  have hd:=List.dropWhile_sublist (fun x=>decide (tv x∉G1.seen)) (l:=rest)
  cases hq:rest.dropWhile (fun x=>decide (tv x∉G1.seen)) with
  |nil=>rw [hq] at h;cases h
  |cons x r=>
   rw [hq] at h hd
   simp only at h
   split at h
   ·simp only [Option.some.injEq,Prod.mk.injEq] at h
    obtain ⟨rfl,rfl⟩:=h
    exact ⟨⟨k1.nd,k1.sn,k1.ln,k1.lt⟩,k2.fF _,hd.subset (by simp)⟩
   ·obtain ⟨g1,g2,g3⟩:=vx f _ _ _ _ GE xe h ⟨k1.nd,k1.sn,k1.ln,k1.lt⟩ (k2.fF _)
    exact ⟨g1,g2,hd.subset (aP _ g3)⟩
theorem kB {T:Tr} {D:Int} (hD:∀v,T.da v≤D):∀(f k:Nat) (l:List Int) (cj:Int),cj≤(second T f k l cj).2∧(second T f k l cj).2≤max cj D
 |0,k,l,cj=>⟨Int.le_refl _,by show cj≤_;omega⟩
 |f+1,k,l,cj=>by
  rw [second]
  split
  ·split
   ·rename_i h1 h2
    have :=kB hD f (k+1) (dg l 1 k) (T.da (tv l[k]!))
    have :=hD (tv l[k]!)
    omega
   ·exact kB hD f (k+1) l cj
  ·exact ⟨Int.le_refl _,by show cj≤_;omega⟩
theorem pX {T:Tr}:∀(f k:Nat) (l:List Int) (cj:Int),1≤k→∀x∈(second T f k l cj).1,x∈l
 |0,k,l,cj,_,x,hx=>hx
 |f+1,k,l,cj,h,x,hx=>by
  rw [second] at hx
  split at hx
  ·split at hx
   ·exact qK (by omega) (by omega) (pX f (k+1) _ _ (by omega) x hx)
   ·exact pX f (k+1) l cj (by omega) x hx
  ·exact hx
theorem MA {S:Sv} {G:Gr} (h:P6 S G):G.seen.length≤S.vars+1:=by
 have hn:(G.seen.map Int.toNat).Nodup:=by
  unfold List.Nodup
  rw [List.pairwise_map]
  refine List.Pairwise.imp_of_mem ?_ h.nd
  intro a b ha hb dI e
  have :=h.sn a ha
  have :=h.sn b hb
  omega
 have :=j9 (S.vars+1) _ hn (fun x hx=>by
  rw [az] at hx
  obtain ⟨y,hy,rfl⟩:=hx
  have :=h.sn y hy
  omega)
 simpa using this
theorem fR {S:Sv} {m:Nat} (ok:S.Ok m) {n:Nat} {S1:Sv} {l:List Int} {cj:Int} (h:S.gF n=some (S1,l,cj)):
  S1.Ok m∧S1.T=S.T∧S1.vars=S.vars∧S1.list.length=S.list.length∧S1.used=S.used∧0<l.length∧l.length≤1048576∧(∀x∈l,x≠0∧ -(S.vars:Int)≤x∧x≤S.vars)∧0≤cj∧cj≤S.T.levels.length:=by
 have nF:=ok.vl
 unfold gF at h
 cases hq:fg (S.T.lits.length+1) ⟨S,[],0,[0]⟩ n 0 S.T.lits.reverse with
 |none=>rw [hq] at h;cases h
 |some q=>
  obtain ⟨G,x⟩:=q
  rw [hq] at h
  simp only [Option.some.injEq,Prod.mk.injEq] at h
  obtain ⟨rfl,rfl,rfl⟩:=h
  obtain ⟨g1,g2,g3⟩:=vx (S:=S) (m:=m) _ _ _ _ _ G x hq ⟨by simp,fun v hv=>by simp at hv,by simp,fun v hv=>by simp at hv⟩ ⟨rfl,rfl,rfl,rfl,ok,fun x hx=>by simp at hx;subst hx;omega,by simp⟩
  have hl:=g1.ln
  have hs:=MA g1
  have h0:=g2.l0
  have XL:x≠0∧ -(S.vars:Int)≤x∧x≤S.vars:=by
   rw [cP] at g3
   obtain ⟨i,hi,e⟩:=List.getElem_of_mem g3
   have :=ok.oO hi
   simp only [aa,af hi,ay,e] at this
   exact ⟨this.2.2.2.2,this.2.2.1,this.2.2.2.1⟩
  refine ⟨g2.ok,g2.T,g2.vars,g2.len,g2.used,by rw [fP,aw];exact h0,by rw [fP,aw];omega,fun y hy=> ?_,?_,?_⟩
  ·have hy:=pX _ _ _ _ (au 1) y hy
   cases hg:G.bn with
   |nil=>rw [hg] at h0;simp at h0
   |cons z r=>
    rw [hg] at hy
    simp only [List.set_cons_zero,av] at hy
    rcases hy with rfl |hy
    ·omega
    ·exact ⟨g1.lt y (by rw [hg];exact hy),g2.lr y (by rw [hg];exact aP _ hy)⟩
  ·exact (kB (T:=G.S.T) (D:=G.S.T.levels.length) (fun v=>(EK g2.ok v).2) _ _ _ _).1
  ·have :=(kB (T:=G.S.T) (D:=G.S.T.levels.length) (fun v=>(EK g2.ok v).2) (G.bn.set 0 (-x)).length 1 (G.bn.set 0 (-x)) 0).2
   rw [g2.T] at this⊢
   omega
theorem I3 (G:Gr) (l:Int):(meet G l).S.bump=G.S.bump∧(meet G l).S.many=G.S.many:=by
 by_cases h:tv l∈G.seen∨G.S.T.da (tv l)≤0
 ·rw [iK h];exact ⟨rfl,rfl⟩
 ·by_cases h2:G.S.T.da (tv l)=G.S.T.levels.length
  ·rw [fG h h2];exact ⟨rfl,rfl⟩
  ·rw [gR h h2];exact ⟨rfl,rfl⟩
theorem p9 (skip:Int):∀(ls:List Int) (G:Gr),(meets skip ls G).S.bump=G.S.bump∧(meets skip ls G).S.many=G.S.many
 |[],G=>⟨rfl,rfl⟩
 |l::r,G=>by
  rw [meets]
  split
  ·have h1:=p9 skip r (meet G l)
   have h2:=I3 G l
   exact ⟨h1.1.trans h2.1,h1.2.trans h2.2⟩
  ·exact p9 skip r G
theorem Cf (G:Gr) (n skip:Int):(dH G n skip).S.bump=G.S.bump∧(dH G n skip).S.many=G.S.many:=by
 unfold dH
 split
 ·exact p9 skip _ _
 ·exact ⟨rfl,rfl⟩
theorem sZ:∀(f:Nat) (G:Gr) (n skip:Int) (rest:List Int) (GE:Gr) (xe:Int),fg f G n skip rest=some (GE,xe)→GE.S.bump=G.S.bump∧GE.S.many=G.S.many
 |0,G,n,skip,rest,GE,xe,h=>by rw [jx] at h;cases h
 |f+1,G,n,skip,rest,GE,xe,h=>by
  rw [kp] at h
  have hk:=Cf G n skip
  generalize dH G n skip=G1 at h hk
  unfold dR at h
  cases hq:rest.dropWhile (fun x=>decide (tv x∉G1.seen)) with
  |nil=>rw [hq] at h;cases h
  |cons x r=>
   rw [hq] at h
   simp only at h
   split at h
   ·simp only [Option.some.injEq,Prod.mk.injEq] at h
    obtain ⟨rfl,rfl⟩:=h
    exact hk
   ·have :=sZ f _ _ _ _ GE xe h
    exact ⟨this.1.trans hk.1,this.2.trans hk.2⟩
theorem qY {S:Sv} {n:Nat} {S1:Sv} {l:List Int} {cj:Int} (h:S.gF n=some (S1,l,cj)):S1.bump=S.bump∧S1.many=S.many:=by
 unfold gF at h
 cases hq:fg (S.T.lits.length+1) ⟨S,[],0,[0]⟩ n 0 S.T.lits.reverse with
 |none=>rw [hq] at h;cases h
 |some q=>
  obtain ⟨G,x⟩:=q
  rw [hq] at h
  simp only [Option.some.injEq,Prod.mk.injEq] at h
  obtain ⟨rfl,-,-⟩:=h
  exact sZ _ _ _ _ _ G x hq
theorem Kp (S:Sv) (level:Nat):(S.back level).bump=S.bump∧(S.back level).many=S.many∧(S.back level).used=S.used:=by
 have h:=jk S level
 exact ⟨h.2.2.2.2.2.2,h.2.2.1,h.2.1⟩
theorem Ok.bX {S:Sv} {m:Nat} (ok:S.Ok m):S.bX.Ok m:=⟨ok.vl,ok.tr,ok.hi,ok.hl,ok.ph,ok.wl,ok.ll,ok.wb,ok.wt,ok.lr,ok.ln,ok.lb,ok.hd,ok.rs⟩
theorem Ok.GT {S:Sv} {m:Nat} (ok:S.Ok m) (x:Int):({ S with many:=x }:Sv).Ok m:=⟨ok.vl,ok.tr,ok.hi,ok.hl,ok.ph,ok.wl,ok.ll,ok.wb,ok.wt,ok.lr,ok.ln,ok.lb,ok.hd,ok.rs⟩
theorem Ok.zP {S:Sv} {m:Nat} (ok:S.Ok m) (x:Bool):({ S with bad:=x }:Sv).Ok m:=⟨ok.vl,ok.tr,ok.hi,ok.hl,ok.ph,ok.wl,ok.ll,ok.wb,ok.wt,ok.lr,ok.ln,ok.lb,ok.hd,ok.rs⟩
theorem Ok.bt {S:Sv} {m:Nat} (ok:S.Ok m) {l:List Int} (h0:0<l.length) (h1:l.length≤1048576) (hl:∀x∈l,x≠0∧ -(S.vars:Int)≤x∧x≤S.vars) (hr:S.list.length<2199023255552):(S.bt l).Ok m:=by
 unfold Sv.bt
 split
 ·exact ok.put ⟨by omega,by omega⟩
 ·rename_i h2
  have hf:S.Fits l:=⟨by omega,h1,hl⟩
  have h3:=ok.attach hf true hr
  have h4:=ch S l true
  exact (h3.put (x:=l[0]!) (r:=(S.list.length:Int)+1) ⟨by omega,by rw [h4.2.2.1];omega⟩).GT _
end Sv
theorem aQ.OE {L L' M:aQ} {A:Option Addr} {w w':World} (h:L.ext M w) (ha:L'.a=M.a) (hi:L'.id=M.id) (hk:∀k,k<w'.heap.size→(L'.cQ k).1=M.id→(M.cQ k).1=M.id∨k∈ap A) (hz:w.heap.size≤w'.heap.size) (hA:∀k,k∈ap A→w.heap.size≤k):L.ext L' w:=
 ⟨ha.trans h.1,hi.trans h.2.1,fun k hl e=>by
  rcases hk k (aK hl hz) (e.trans h.2.1.symm) with h1 |h1
  ·exact h.2.2 k hl (h1.trans h.2.1)
  ·have :=hA k h1
   omega⟩
theorem aQ.zY {L M:aQ} {A:Option Addr} {w w' xu:World} (h:L.ext M w) (h1:Fr (L.own w) w w') (h2:Fr (ap A++M.own w') w' xu) (hA:∀k,k∈ap A→w.heap.size≤k):Fr (L.own w) w xu:=
 h1.trans h2 fun x hx=>by
  rcases ag.1 hx with hx |hx
  ·exact .inr (hA x hx)
  ·rw [aQ.bQ] at hx
   rcases bK x w.heap.size with hl |hl
   ·left
    rw [aQ.bQ]
    exact ⟨hl,h.2.2 x hl (hx.2.trans h.2.1)⟩
   ·exact .inr hl
theorem BJ (b:Nat):((b:Int).tdiv 16)=((b/16:Nat):Int):=by
 rw [Int.tdiv_eq_ediv_of_nonneg (by omega)]
 rfl
theorem wR (w:World) (L:aQ) (S:Sv) (h:bf w L S) (m:Nat) (ok:S.Ok m) (n:Nat) (hn:n<S.list.length) (sD:S.list.length<2199023255552) (hu:S.used≤2199023255552) (hbu:S.bump≤1073741824) (hma:S.many<4611686018427387904) (LJ: -4611686018427387904<S.many) (DX:S.T.levels.length≤8796093022208) (S':Sv) (b:Bool) (fS:S.conflict n=some (S',b)):
  Calls Tryz.prog 108 #[.pointer (some ⟨L.a,0,none⟩), .int .i64 n] w (oF (.bool b) S' L w):=by
 have HH:=ae h
 have kM:=ae ok
 obtain ⟨c0,-⟩:=h.cells
 have KD:=ae (lf w L.tL S.T h.tr)
 unfold Sv.conflict at fS
 by_cases hz:S.T.levels.length=0
 ·rw [if_pos hz] at fS
  simp only [Option.some.injEq,Prod.mk.injEq] at fS
  obtain ⟨rfl,rfl⟩:=fS
  rw [hz] at KD
  have tX:=h.obj.frozen 13
  have LX:=h.cells.2.2.2.2.2.2.2.2.2.2.2.2.2.1
  obtain ⟨g1,g2⟩:=h.pk 13 (.bool true) { S with bad:=true } (by simp [oQ]) ⟨rfl,rfl,rfl,rfl,rfl,rfl,rfl⟩
  have FF:al (oF (.bool false) { S with bad:=true } L w (.returned (.bool false)) (w.setCell ⟨L.a,13,none⟩ (.bool true))):=⟨rfl,L,g1,aQ.co _ _,g2⟩
  clear h ok g1 g2 hz
  go_enter Tryz.func108,Tryz.ntmps108
  go_wp2_with fail
  refine KD.o.mono ?_
  rintro e w1 ⟨rfl,rfl⟩
  clear KD
  go_wp2
  go_ret
  exact FF.o
 ·rw [if_neg hz] at fS
  have hd:((S.T.levels.length:Int)==(0:Int))=false:=by rw [beq_eq_false_iff_ne];omega
  cases hq:S.gF n with
  |none=>rw [hq] at fS;cases fS
  |some q=>
   obtain ⟨S1,l,cj⟩:=q
   rw [hq] at fS
   simp only [Option.some.injEq,Prod.mk.injEq] at fS
   obtain ⟨rfl,rfl⟩:=fS
   have Ug:=ae (xR w L S h m ok n hn S1 l cj hq)
   obtain ⟨sl,eT,eV,eL,eU,l0,l1,lr,Zh,Zg⟩:=Sv.fR ok hq
   obtain ⟨lv,rfl⟩:∃lv:Nat,cj=lv:=⟨cj.toNat,by omega⟩
   have lI:lv≤8796093022208:=by omega
   have Pk:=ae sl
   have rO:=ae lr
   have nF:=ok.vl
   obtain ⟨YR,eV2,Uc⟩:=sl.back lv
   have SJ:=ae YR
   obtain ⟨S2,Hz⟩:∃S2,S1.back lv=S2:=⟨_,rfl⟩
   have hx:=Sv.Kp S1 lv
   rw [Hz] at YR eV2 Uc SJ hx
   have HS2:=ae Hz
   have jh:S2.bump=S.bump∧S2.many=S.many∧S2.used=S.used:=⟨hx.1.trans (Sv.qY hq).1,hx.2.1.trans (Sv.qY hq).2,hx.2.2.trans eU⟩
   obtain ⟨CU,i8,Cp⟩:=jh
   have TS:S2.list.length=S.list.length:=by rw [Uc];exact eL
   have TE:S2.vars=S.vars:=eV2.trans eV
   have HV2:=ae TE
   have Pu:=ae TS
   have P8:=ae Cp
   have qr:=ae sD
   have HU:=ae hu
   have eP:al (((S1.back ((lv:Int).toNat)).bt l).bX=(S2.bt l).bX):=by
    show _=_
    rw [Int.toNat_natCast,Hz]
   rw [eP.o]
   clear h ok hz hq sl lr YR Hz eT eV eL eU eV2 Uc hx hn TS TE Cp sD hu Zh Zg
   go_enter Tryz.func108,Tryz.ntmps108
   go_wp2_with fail
   refine KD.o.mono ?_
   rintro e w1 ⟨rfl,rfl⟩
   clear KD c0
   go_wp2_with fail
   refine Ug.o.mono ?_
   clear Ug hd
   rintro e w1 ⟨A,c,rfl,L1,h1,rT,PX,hA1,cU⟩
   have H1:=ae h1
   have eG:=ae rT
   have Iz:=ae PX
   have XE:=ae hA1
   have dy:=ae cU
   clear h1 rT PX hA1 cU
   have KB:=ae (m6 w1 L1 S1 H1.o m Pk.o lv (by omega))
   rw [eG.o.1,HS2.o] at KB
   go_wp2_with fail
   refine KB.o.mono ?_
   clear KB
   rintro e w2 ⟨rfl,L2,h2,jp,bZ⟩
   have H2:=ae h2
   have dx:=ae (aQ.aX eG.o jp dy.o.size)
   have cH:=ae (aQ.aR eG.o dy.o bZ)
   have mw:al (Ints w2 A c l):=Iz.o.fr bZ (fun k hk hm=>(XE.o k hk).2 (aQ.bQ.1 hm).2)
   have GH:al (∀k,k∈ap A→w.heap.size≤k∧(L2.cQ k).1≠L2.id):=fun k hk=>⟨(XE.o k hk).1,fun e=>(XE.o k hk).2 (jp.2.2 k (Iz.o.lt k hk) (e.trans jp.2.1))⟩
   clear h2 jp bZ Iz XE H1 eG dy Pk
   obtain ⟨ga,o3,sE⟩:=mw.o.pos l0
   subst o3
   have s0:=H2.o.cells.1
   rw [dx.o.1] at s0
   have s1:=mw.o.cell l0
   obtain ⟨y,hy⟩:∃y,l[0]! =y:=⟨_,rfl⟩
   rw [hy] at s1
   have PR:=rO.o y (by rw [←hy];exact get_mem l0)
   obtain ⟨jJ,im,kS⟩:=PR
   have HY:=ae hy
   have uT:=ae s0
   have pu:=ae s1
   clear sE hy s0 s1
   by_cases vQ:l.length=1
   ·have zd:((l.length:Int)==(1:Int))=true:=by simp [vQ]
    have yp:al (S2.bt l=S2.put y 0):=by
     show _=_
     unfold Sv.bt
     rw [if_pos vQ,HY.o]
    have KP:=ae (fun W (hW:Fr [] w2 W)=>mc W L2 S2 (H2.o.keep hW) m SJ.o y 0 (by rw [HV2.o];exact im) (by rw [HV2.o];exact kS))
    go_wp2_with fail
    go_upto_region 7 with fail
    refine wp_region_noPanic ?_
    refine bp (fun w':World=>Fr [] w2 w') 7 (by kernel_rfl) ((Fr.refl [] w2).drew) (fun db=> ?_)
    refine pf 7 [(0,[]),(1,[]),(2,[]),(3,[3,7]),(4,[]),(5,[]),(6,[6,7])] db (fun w cm=>And.intro (cm.aT uT.o) (cm.aT pu.o)) ?_;intro db
    refine R2 7 db fun K hK aH=> ?_
    (go_simp;refine (KP.o _ aH).mono ?_;rintro e w5 ⟨⟨x5,rfl⟩,L5,h5,uI,eu⟩;dsimp only)
    refine hK.out _ _ (.inl rfl) (fun Wi=> ?_)
    clear hK K
    try simp only [Act.put,q5,q6,q7]
    refine fo ?_
    clear KP
    have nK:al (L.ext L5 w):=aQ.aX dx.o uI (aF cH.o.size aH.size)
    have kN:al (Fr (L.own w) w w5):=aQ.aR dx.o (cH.o.aj (aH.mono (fun k hk=>by cases hk))) eu
    have H5:=ae h5
    clear h5 uI eu
    obtain ⟨S6,xY⟩:∃S6,S2.put y 0=S6:=⟨_,rfl⟩
    rw [xY] at H5
    have Bm:al (S6=S2.bt l):=by rw [yp.o];exact xY.symm
    have hb6:S6.bump=S2.bump:=by rw [←xY];rfl
    have H6:=H5
    have ik:=kN
    clear xY
    go_wp2_with fail
    obtain ⟨-,-,-,-,-,-,-,-,-,-,OV,-⟩:=H6.o.cells
    rw [nK.o.1] at OV
    have f10:=H6.o.obj.frozen 10
    rw [nK.o.1] at f10
    have FI:S6.bump=S.bump:=hb6.trans CU
    rw [FI] at OV
    obtain ⟨bb,CW⟩:∃bb,S.bump=bb:=⟨_,rfl⟩
    rw [CW] at OV hbu
    have Qk:=ae (FI.trans CW)
    have tj:=BJ bb
    have QW:IntKind.i64.wrap ((bb:Int)+((bb/16:Nat):Int))=(bb:Int)+((bb/16:Nat):Int):=IntWalk.i64_in _ (by omega)
    have Ly:IntKind.i64.wrap ((bb:Int)+((bb/16:Nat):Int)+1)=(bb:Int)+((bb/16:Nat):Int)+1:=IntWalk.i64_in _ (by omega)
    clear FI CW tj
    rcases bK 1073741824 (bb+bb/16+1) with VK |VK
    ·have VJ:(1073741824:Int)<(bb:Int)+((bb/16:Nat):Int)+1:=by omega
     have xo:al (min (bb+bb/16+1) 1073741824=1073741824):=Nat.min_eq_right (by omega)
     clear VK
     go_upto_region 10 with fail
     go_region
     obtain ⟨g7,f7⟩:=H6.o.pk 10 (.int .i64 ((1073741824:Nat):Int)) { S6 with bump:=1073741824 } (by simp [oQ]) ⟨rfl,rfl,rfl,rfl,rfl,rfl,rfl⟩
     rw [nK.o.1] at g7 f7
     have h8:=g7.keep (Fr.refl [] _).drew
     have vX:({ S6 with bump:=1073741824 }:Sv)=(S2.bt l).bX:=by
      rw [←Bm.o]
      unfold Sv.bX
      rw [Qk.o,xo.o]
     rw [vX] at h8
     have FF:al (oF (.bool true) (S2.bt l).bX L w (.returned (.bool true)) _):=⟨rfl,L5,h8,nK.o,(aQ.aR nK.o ik.o f7).drew⟩
     clear h8 f7 g7 vX OV f10 QW Ly
     go_wp2
     go_ret
     exact FF.o
    ·have VJ:(bb:Int)+((bb/16:Nat):Int)+1≤(1073741824:Int):=by omega
     have xo:al (min (bb+bb/16+1) 1073741824=bb+bb/16+1):=Nat.min_eq_left (by omega)
     have GC:al ((bb:Int)+(bb:Int)/16+1=((bb+bb/16+1:Nat):Int)):=by show _=_;omega
     clear VK
     go_upto_region 10 with fail
     go_region
     rw [GC.o]
     obtain ⟨g7,f7⟩:=H6.o.pk 10 (.int .i64 (((bb+bb/16+1):Nat):Int)) { S6 with bump:=(bb+bb/16+1) } (by simp [oQ]) ⟨rfl,rfl,rfl,rfl,rfl,rfl,rfl⟩
     rw [nK.o.1] at g7 f7
     have h8:=g7.keep (Fr.refl [] _).drew
     have vX:({ S6 with bump:=(bb+bb/16+1) }:Sv)=(S2.bt l).bX:=by
      rw [←Bm.o]
      unfold Sv.bX
      rw [Qk.o,xo.o]
     rw [vX] at h8
     have FF:al (oF (.bool true) (S2.bt l).bX L w (.returned (.bool true)) _):=⟨rfl,L5,h8,nK.o,(aQ.aR nK.o ik.o f7).drew⟩
     clear h8 f7 g7 vX OV f10 QW Ly
     go_wp2
     go_ret
     exact FF.o
   ·have zd:((l.length:Int)==(1:Int))=false:=by rw [beq_eq_false_iff_ne];omega
    have up:al (S2.Fits l):=⟨by omega,l1,fun x hx=>by rw [HV2.o];exact rO.o x hx⟩
    obtain ⟨nl,qw⟩:∃nl,S2.list.length=nl:=⟨_,rfl⟩
    have Lb:=ae qw
    have amB:nl<2199023255552:=by rw [←qw,Pu.o];exact qr.o
    have yp:al (S2.bt l={ ((S2.attach l true).put y ((nl:Int)+1)) with many:=S2.many+1 }):=by
     show _=_
     unfold Sv.bt
     rw [if_neg vQ,HY.o,Lb.o]
    have Bl:=ae (fun W (hW:Fr [] w2 W)=>rJ W L2 S2 (H2.o.keep hW) m SJ.o (some ⟨ga,0,none⟩) c l true (mw.o.dX hW) up.o (fun k hk=>(GH.o k hk).2) (by rw [Pu.o];exact qr.o) (by rw [P8.o];exact HU.o))
    rw [dx.o.1,qw] at Bl
    have aht:=ae (SJ.o.attach up.o true (by rw [Pu.o];exact qr.o))
    have vV:=Sv.ch S2 l true
    have Te:=ae vV
    have hwn:IntKind.i64.wrap ((nl:Int)+1)=(nl:Int)+1:=IntWalk.i64_in _ (by omega)
    clear vV qw
    go_wp2_with fail
    go_upto_region 8 with fail
    refine wp_region_noPanic ?_
    refine bp (fun w':World=>w'.cell? ⟨L.a,0,none⟩=some (.pointer (some ⟨L2.tL.a,0,none⟩))∧w'.cell? ⟨ga,0,none⟩=some (.int .i64 y)) 11 (by kernel_rfl) (⟨uT.o,pu.o⟩) (fun db=> ?_)
    refine pf 9 [(0,[]),(1,[]),(2,[]),(3,[3,11]),(4,[]),(5,[]),(6,[6,11]),(7,[]),(8,[])] db (fun w cm=>And.intro (cm.1) (cm.2)) ?_;intro db
    refine R2 9 db fun K hK aH=> ?_
    (go_simp;refine (Bl.o _ (Fr.refl [] w2).drew).mono ?_;rintro e w4 ⟨rfl,L4,h4,Wh,Ak,hk4,eW,hr4,ht4⟩;have s0':=h4.cells.1;rw [Wh,dx.o.1,ht4] at s0';have s1':=hr4.cell l0;rw [HY.o] at s1';have H4:=ae h4;have uS:al (L.ext L4 w):=aQ.OE dx.o Wh Ak hk4 cH.o.size (fun k hk=>(GH.o k hk).1);have fM:al (Fr (L.own w) w w4):=aQ.zY dx.o cH.o.drew eW (fun k hk=>(GH.o k hk).1);have HT4:=ae ht4;have KP:=ae (mc w4 L4 (S2.attach l true) h4 m aht.o y ((nl:Int)+1) (by rw [Te.o.2.1,HV2.o];exact im) (by rw [Te.o.2.1,HV2.o];exact kS));rw [ht4] at KP;clear h4 Wh Ak hk4 eW hr4 ht4;dsimp only)
    refine hK.out _ _ (.inr ?_) (fun lJ=> ?_)
    ·first |exact ⟨s0',s1'⟩ |exact aH
    clear hK K
    try simp only [Act.put,q5,q6,q7]
    refine TB 1 [(10,[])] lJ ?_;intro lJ
    refine R2 11 lJ fun K hK aH=> ?_
    (go_simp;refine KP.o.mono ?_;rintro e w5 ⟨⟨x5,rfl⟩,L5,h5,uI,eu⟩;dsimp only)
    refine hK.out _ _ (.inl rfl) (fun jC=> ?_)
    clear hK K
    try simp only [Act.put,q5,q6,q7]
    refine fo ?_
    clear KP Bl
    have nK:al (L.ext L5 w):=aQ.aX uS.o uI fM.o.size
    have kN:al (Fr (L.own w) w w5):=aQ.aR uS.o fM.o eu
    have H5:=ae h5
    clear h5 uI eu
    obtain ⟨-,-,-,-,-,-,-,-,-,-,-,b11,-⟩:=H5.o.cells
    rw [nK.o.1] at b11
    have f11:=H5.o.obj.frozen 11
    rw [nK.o.1] at f11
    have hm5:((S2.attach l true).put y ((nl:Int)+1)).many=S.many:=i8
    rw [hm5] at b11
    obtain ⟨mm,xz⟩:∃mm,S.many=mm:=⟨_,rfl⟩
    rw [xz] at b11 hma LJ
    have tR:IntKind.i64.wrap (mm+1)=mm+1:=IntWalk.i64_in _ (by omega)
    obtain ⟨g6,f6⟩:=H5.o.pk 11 (.int .i64 (mm+1)) { ((S2.attach l true).put y ((nl:Int)+1)) with many:=mm+1 } (by simp [oQ]) ⟨rfl,rfl,rfl,rfl,rfl,rfl,rfl⟩
    rw [nK.o.1] at g6 f6
    obtain ⟨S6,xY⟩:∃S6,({ ((S2.attach l true).put y ((nl:Int)+1)) with many:=mm+1 }:Sv)=S6:=⟨_,rfl⟩
    have Bm:al (S6=S2.bt l):=by rw [yp.o,i8,xz];exact xY.symm
    have hb6:S6.bump=S2.bump:=by rw [←xY];rfl
    rw [xY] at g6
    clear xY hm5
    go_upto_region 9 with fail
    go_wp2_with fail
    obtain ⟨w6,tf⟩:∃w6,w5.setCell ⟨L.a,11,none⟩ (.int .i64 (mm+1))=w6:=⟨_,rfl⟩
    rw [tf] at g6 f6⊢
    have H6:=ae g6
    have ik:=ae (aQ.aR nK.o kN.o f6)
    clear tf g6 f6 b11 f11 tR xz
    obtain ⟨-,-,-,-,-,-,-,-,-,-,OV,-⟩:=H6.o.cells
    rw [nK.o.1] at OV
    have f10:=H6.o.obj.frozen 10
    rw [nK.o.1] at f10
    have FI:S6.bump=S.bump:=hb6.trans CU
    rw [FI] at OV
    obtain ⟨bb,CW⟩:∃bb,S.bump=bb:=⟨_,rfl⟩
    rw [CW] at OV hbu
    have Qk:=ae (FI.trans CW)
    have tj:=BJ bb
    have QW:IntKind.i64.wrap ((bb:Int)+((bb/16:Nat):Int))=(bb:Int)+((bb/16:Nat):Int):=IntWalk.i64_in _ (by omega)
    have Ly:IntKind.i64.wrap ((bb:Int)+((bb/16:Nat):Int)+1)=(bb:Int)+((bb/16:Nat):Int)+1:=IntWalk.i64_in _ (by omega)
    clear FI CW tj
    rcases bK 1073741824 (bb+bb/16+1) with VK |VK
    ·have VJ:(1073741824:Int)<(bb:Int)+((bb/16:Nat):Int)+1:=by omega
     have xo:al (min (bb+bb/16+1) 1073741824=1073741824):=Nat.min_eq_right (by omega)
     clear VK
     go_upto_region 10 with fail
     go_region
     obtain ⟨g7,f7⟩:=H6.o.pk 10 (.int .i64 ((1073741824:Nat):Int)) { S6 with bump:=1073741824 } (by simp [oQ]) ⟨rfl,rfl,rfl,rfl,rfl,rfl,rfl⟩
     rw [nK.o.1] at g7 f7
     have h8:=g7.keep (Fr.refl [] _).drew
     have vX:({ S6 with bump:=1073741824 }:Sv)=(S2.bt l).bX:=by
      rw [←Bm.o]
      unfold Sv.bX
      rw [Qk.o,xo.o]
     rw [vX] at h8
     have FF:al (oF (.bool true) (S2.bt l).bX L w (.returned (.bool true)) _):=⟨rfl,L5,h8,nK.o,(aQ.aR nK.o ik.o f7).drew⟩
     clear h8 f7 g7 vX OV f10 QW Ly
     go_wp2
     go_ret
     exact FF.o
    ·have VJ:(bb:Int)+((bb/16:Nat):Int)+1≤(1073741824:Int):=by omega
     have xo:al (min (bb+bb/16+1) 1073741824=bb+bb/16+1):=Nat.min_eq_left (by omega)
     have GC:al ((bb:Int)+(bb:Int)/16+1=((bb+bb/16+1:Nat):Int)):=by show _=_;omega
     clear VK
     go_upto_region 10 with fail
     go_region
     rw [GC.o]
     obtain ⟨g7,f7⟩:=H6.o.pk 10 (.int .i64 (((bb+bb/16+1):Nat):Int)) { S6 with bump:=(bb+bb/16+1) } (by simp [oQ]) ⟨rfl,rfl,rfl,rfl,rfl,rfl,rfl⟩
     rw [nK.o.1] at g7 f7
     have h8:=g7.keep (Fr.refl [] _).drew
     have vX:({ S6 with bump:=(bb+bb/16+1) }:Sv)=(S2.bt l).bX:=by
      rw [←Bm.o]
      unfold Sv.bX
      rw [Qk.o,xo.o]
     rw [vX] at h8
     have FF:al (oF (.bool true) (S2.bt l).bX L w (.returned (.bool true)) _):=⟨rfl,L5,h8,nK.o,(aQ.aR nK.o ik.o f7).drew⟩
     clear h8 f7 g7 vX OV f10 QW Ly
     go_wp2
     go_ret
     exact FF.o
namespace Sv
def Gd (S S':Sv):Prop:=∃D:List Nat,D.Nodup∧(∀n∈D,n∈S.Bu)∧D.length=S.Bu.length/2∧S'=D.foldl bW S
structure Small (S:Sv):Prop where
 list:S.list.length<2199023255552
 used:S.used<2199023255552
 bump:S.bump≤1073741824
 MW: -1152921504606846976≤S.many
 many1:S.many≤1152921504606846976
 lim:S.bP≤2199023255552
 cj:S.T.levels.length≤4398046511104
 core:S.core=[]
def fy (S:Sv):Sv:={ S with bP:=S.bP+(S.bP/16+1) }
def yB (red:Bool) (S:Sv) (K:Sv→Prop):Prop:=
 if (S.bP:Int)<S.many then (if red=true then ∀S',Gd S S'→K S'.fy else False) else K S
def F8 (budget:Int) (n:Nat) (Q:Sv→Int→Prop) (K:Sv→Prop):Option (Sv×Bool)→Prop
 |none=>False
 |some (S2,false)=>Q S2 2
 |some (S2,true)=>if budget<(n+1:Nat) then Q S2 0 else K S2
def cE (S:Sv):Sv:={ S with used:=S.used+1 }
def ib (red:Bool) (budget:Int) (us:List Int) (Q:Sv→Int→Prop) (K:Nat→Nat→Sv→Prop):Nat→Nat→Nat→Sv→Prop
 |0,_,_,_=>False
 |d+1,next,n,S=>
  S.Small∧n<2199023255552∧next <4398046511104∧
  match S.follow.2 with
  |some c=>F8 budget n Q (K next (n+1)) (S.follow.1.cE.conflict c)
  |none=>yB red (S.follow.1.de n next) fun S3=>
    if (S3.aS us).2=0 then ib red budget us Q K d (if next ≤n then n+64 else next) n (S3.aS us).1 else Q (S3.aS us).1 (S3.aS us).2
def eJ (red:Bool) (budget:Int) (us:List Int) (Q:Sv→Int→Prop) (D:Nat):Nat→Nat→Nat→Sv→Prop
 |0,_,_,_=>False
 |c+1,next,n,S=>ib red budget us Q (eJ red budget us Q D c) D next n S
theorem zt {S:Sv} {n:Nat} (h:n∈S.Bu):n<S.list.length∧(S.rc n).iY=true∧2<(S.rc n).lits.length∧S.locked n=false:=by
 unfold Bu at h
 rw [cq,df] at h
 obtain ⟨h1,h2⟩:=h
 simp only [aD,decide_eq_true_eq,Bool.not_eq_true'] at h2
 exact ⟨h1,h2.1.1,h2.1.2,h2.2⟩
theorem eK (S:Sv) (n j:Nat):(S.bW n).rc j=if n=j∧n<S.list.length then ⟨[],false,(S.rc n).act⟩ else S.rc j:=dT _ _ _ _
theorem Ok.bW {S:Sv} {m:Nat} (ok:S.Ok m) (n:Nat):(S.bW n).Ok m:=by
 have el:(S.bW n).list.length=S.list.length:=by simp [Sv.bW]
 refine ⟨ok.vl,ok.tr,ok.hi,ok.hl,ok.ph,ok.wl,by rw [el];exact ok.ll,fun c k hk=>by rw [el];exact ok.wb c k hk,by rw [el];exact ok.wt,fun j x hx=> ?_,fun j=> ?_,fun j=> ?_,ok.hd,fun v=>by rw [el];exact ok.rs v⟩
 ·rw [eK] at hx
  split at hx
  ·simp at hx
  ·exact ok.lr j x hx
 ·rw [eK]
  split
  ·simp
  ·exact ok.ln j
 ·rw [eK]
  split
  ·simp
  ·exact ok.lb j
theorem Ok.OI {m:Nat}:∀(D:List Nat) (S:Sv),S.Ok m→(D.foldl Sv.bW S).Ok m
 |[],S,ok=>ok
 |n::r,S,ok=>Ok.OI r _ (ok.bW n)
theorem kI:∀(D:List Nat) (S:Sv),(D.foldl bW S).T=S.T∧(D.foldl bW S).vars=S.vars∧(D.foldl bW S).list.length=S.list.length∧(D.foldl bW S).core=S.core∧(D.foldl bW S).bP=S.bP∧(D.foldl bW S).many=S.many-D.length
 |[],S=>⟨rfl,rfl,rfl,rfl,rfl,by simp⟩
 |n::r,S=>by
  have h:=kI r (S.bW n)
  refine ⟨h.1,h.2.1,h.2.2.1.trans (by simp [bW]),h.2.2.2.1,h.2.2.2.2.1,h.2.2.2.2.2.trans ?_⟩
  simp only [bO,bW]
  omega
theorem Ok.fy {S:Sv} {m:Nat} (ok:S.Ok m):S.fy.Ok m:=⟨ok.vl,ok.tr,ok.hi,ok.hl,ok.ph,ok.wl,ok.ll,ok.wb,ok.wt,ok.lr,ok.ln,ok.lb,ok.hd,ok.rs⟩
theorem Ok.cE {S:Sv} {m:Nat} (ok:S.Ok m):S.cE.Ok m:=⟨ok.vl,ok.tr,ok.hi,ok.hl,ok.ph,ok.wl,ok.ll,ok.wb,ok.wt,ok.lr,ok.ln,ok.lb,ok.hd,ok.rs⟩
theorem Ok.de {S:Sv} {m:Nat} (ok:S.Ok m) (n next :Nat):(S.de n next).Ok m:=by
 unfold Sv.de
 split
 ·exact (ok.back 0).1
 ·exact ok
theorem sT {S:Sv} {m:Nat} (ok:S.Ok m) (n next :Nat):(S.de n next).vars=S.vars∧(S.de n next).list=S.list∧(S.de n next).core=S.core∧(S.de n next).many=S.many∧(S.de n next).bP=S.bP∧(S.de n next).T.levels.length≤S.T.levels.length:=by
 unfold Sv.de
 split
 ·have h:=jk S 0
  have h2:=ok.back 0
  exact ⟨h2.2.1,h2.2.2,h.1,h.2.2.1,h.2.2.2.1,h.2.2.2.2.2.1⟩
 ·exact ⟨rfl,rfl,rfl,rfl,rfl,au _⟩
theorem Ok.conflict {S:Sv} (ok:S.Ok 0) (hl:S.list.length<2199023255552) {n:Nat} {S':Sv} {b:Bool} (h:S.conflict n=some (S',b)):S'.Ok 0∧S'.vars=S.vars:=by
 unfold Sv.conflict at h
 split at h
 ·simp only [Option.some.injEq,Prod.mk.injEq] at h
  obtain ⟨rfl,rfl⟩:=h
  exact ⟨ok.zP true,rfl⟩
 ·cases hq:S.gF n with
  |none=>rw [hq] at h;cases h
  |some q=>
   obtain ⟨S1,l,cj⟩:=q
   rw [hq] at h
   simp only [Option.some.injEq,Prod.mk.injEq] at h
   obtain ⟨rfl,rfl⟩:=h
   obtain ⟨sl,eT,eV,eL,eU,l0,l1,lr,Zh,Zg⟩:=fR ok hq
   obtain ⟨YR,eV2,Uc⟩:=sl.back cj.toNat
   have e2:(S1.back cj.toNat).vars=S.vars:=eV2.trans eV
   have sD:(S1.back cj.toNat).list.length<2199023255552:=by rw [Uc,eL];exact hl
   refine ⟨(YR.bt l0 l1 (by rw [e2];exact lr) sD).bX,?_⟩
   show ((S1.back cj.toNat).bt l).vars=_
   rw [←e2]
   unfold Sv.bt
   split
   ·rfl
   ·exact (ch _ l true).2.1
end Sv
def Ge:Prop:=∀(w:World) (L:aQ) (S:Sv),bf w L S→S.Ok 0→ -1152921504606846976≤S.many→S.many≤1152921504606846976→
 Calls Tryz.prog 109 #[.pointer (some ⟨L.a,0,none⟩)] w fun e w'=>∃S',Sv.Gd S S'∧oF (.tuple #[]) S' L w e w'
def Dw (Q:Sv→Int→Prop) (L:aQ) (w:World) (e:Ending) (w':World):Prop:=∃(S':Sv) (r:Int),Q S' r∧S'.Ok 0∧oF (.int .i64 r) S' L w e w'
theorem qM (red:Bool) (qq:red=true→Ge) (w:World) (L:aQ) (S:Sv) (h:bf w L S) (ok:S.Ok 0) (A:Option Addr) (c:Nat) (us:List Int) (rQ:Bk w L A us) (yZ:∀x∈us,-(S.vars:Int)≤x∧x≤S.vars) (xS:us.length≤1099511627776) (budget:Int) (Q:Sv→Int→Prop) (D C:Nat) (hW:Sv.eJ red budget us Q D C 64 0 S):
  Calls Tryz.prog 85 #[.pointer (some ⟨L.a,0,none⟩), .int .i64 budget, .slice A us.length c] w (Dw Q L w):=by
 have HH:=ae h
 have kM:=ae ok
 have Yg:=ae rQ
 have P8:=ae yZ
 have HKR:=ae qq
 obtain ⟨C0,rfl⟩:∃C0,C=C0+1:=⟨C-1,by
  rcases C with _ |C
  ·exact absurd hW (by simp [Sv.eJ])
  ·omega⟩
 have Uk:al (Sv.ib red budget us Q (Sv.eJ red budget us Q D C0) D 64 0 S):=hW
 clear hW h ok rQ yZ qq
 go_enter Tryz.func85,Tryz.ntmps85
 go_wp2_with fail
 go_loopg [7,8] (C0*(D+1)+D) (fun g x7 x8 wr=>∃(c0 d next n:Nat) (S1:Sv) (L1:aQ),g=c0*(D+1)+d∧x7= .int .i64 next ∧x8= .int .i64 n∧al (Sv.ib red budget us Q (Sv.eJ red budget us Q D c0) d next n S1)∧al (S1.vars=S.vars)∧al (S1.Ok 0)∧al (bf wr L1 S1)∧al (L.ext L1 w)∧al (Fr (L.own w) w wr))
 case atStart=>exact ⟨C0,D,64,0,S,L,rfl,rfl,rfl,Uk.o,rfl,kM.o,HH.o,aQ.co _ _,Fr.refl _ _⟩
 case round=>
  obtain ⟨c0,d,next,n,S1,L1,hg,rfl,rfl,HW,HV1,j4,H1,eG,dy⟩:=hrel
  obtain ⟨d,rfl⟩:∃d',d=d'+1:=⟨d-1,by
   rcases d with _ |d
   ·exact absurd HW.o (by simp [Sv.ib])
   ·omega⟩
  have HG:=ae hg
  have hw:=HW.o
  rw [Sv.ib] at hw
  obtain ⟨uG,hn,ai7,hw⟩:=hw
  have KF:=ae (Av wr L1 S1 H1.o j4.o)
  rw [eG.o.1] at KF
  have hfo:=j4.o.follow
  obtain ⟨SF,hSF⟩:∃SF,S1.follow.1=SF:=⟨_,rfl⟩
  obtain ⟨oc,hoc⟩:∃oc,S1.follow.2=oc:=⟨_,rfl⟩
  rw [hSF,hoc] at hw hfo KF
  obtain ⟨aaF,Al,V6⟩:=hfo
  have pR:=ae uG
  have ZH:SF.vars=S.vars:=(congrArg (fun x=>x.2.1) Al).trans HV1.o
  have gI:SF.core=[]:=(congrArg (fun x=>x.2.2.2.2.1) Al).trans uG.core
  have Cp:SF.used=S1.used:=congrArg (fun x=>x.2.2.2.2.2.1) Al
  have CU:SF.bump=S1.bump:=congrArg (fun x=>x.2.2.2.2.2.2.1) Al
  have i8:SF.many=S1.many:=congrArg (fun x=>x.2.2.2.2.2.2.2.1) Al
  have pn:SF.bP=S1.bP:=congrArg (fun x=>x.2.2.2.2.2.2.2.2.1) Al
  have Fl:SF.T.levels=S1.T.levels:=congrArg (fun x=>x.2.2.2.2.2.2.2.2.2.2.2.1) Al
  have VT:SF.list.length=S1.list.length:=congrArg (fun x=>x.2.2.2.2.2.2.2.2.2.2.2.2) Al
  have Xc:=ae aaF
  have Ul:=ae ZH
  have HCF:=ae gI
  have ahB:=ae VT
  have Ut:al (SF.T.levels.length≤4398046511104):=by show _≤_;rw [Fl];exact uG.cj
  have HIF:al (SF.list.length<2199023255552):=by show _<_;rw [VT];exact uG.list
  have aeR:=uG.used
  have ZN:=uG.bump
  have Vs:=uG.MW
  have Vr:=uG.many1
  have Vq:=uG.lim
  rw [←Cp] at aeR
  rw [←CU] at ZN
  rw [←i8] at Vs Vr
  rw [←pn] at Vq
  clear hg HW hSF hoc aaF Al ZH gI Cp CU i8 pn Fl VT uG
  go_wp2_with fail
  refine KF.o.mono ?_
  clear KF
  rintro e w2 ⟨rfl,L2,h2,jp,bZ⟩
  have H2:=ae h2
  have dx:=ae (aQ.aX eG.o jp dy.o.size)
  have cH:=ae (aQ.aR eG.o dy.o bZ)
  clear h2 jp bZ H1 eG dy
  cases oc with
  |some cf=>
   have hcf:=V6 cf rfl
   have DY:cf<SF.list.length:=by
    rw [ahB.o]
    exact hcf
   have HFI:al (wh (some cf)=(cf:Int)):=rfl
   rw [HFI.o]
   have y9:(0:Int)≤(cf:Int):=by omega
   have hwn:IntKind.i64.wrap ((n:Int)+1)=(n:Int)+1:=IntWalk.i64_in _ (by omega)
   have ZB:IntKind.i64.wrap ((SF.used:Int)+1)=(SF.used:Int)+1:=IntWalk.i64_in _ (by omega)
   obtain ⟨-,-,-,-,-,-,-,-,-,c9,-⟩:=H2.o.cells
   rw [dx.o.1] at c9
   have f9:=H2.o.obj.frozen 9
   rw [dx.o.1] at f9
   obtain ⟨g3,f3⟩:=H2.o.pk 9 (.int .i64 ((SF.used:Int)+1)) SF.cE (by simp [oQ,Sv.cE]) ⟨rfl,rfl,rfl,rfl,rfl,rfl,rfl⟩
   rw [dx.o.1] at g3 f3
   have HQ:=ae hw
   clear hw V6
   go_upto_region 7 with fail
   obtain ⟨w3,rf⟩:∃w3,w2.setCell ⟨L.a,9,none⟩ (.int .i64 ((SF.used:Int)+1))=w3:=⟨_,rfl⟩
   rw [rf] at g3 f3⊢
   have H3:=ae g3
   have cZ:=ae (aQ.aR dx.o cH.o f3)
   clear rf g3 f3 c9 f9 ZB
   have hq:=HQ.o
   cases mi:SF.cE.conflict cf with
   |none=>rw [mi] at hq;exact absurd hq (by simp [Sv.F8])
   |some q=>
    obtain ⟨S4,b⟩:=q
    rw [mi] at hq
    have KC:=ae (wR w3 L2 SF.cE H3.o 0 Xc.o.cE cf DY HIF.o (by show SF.used+1≤_;omega) ZN (by show SF.many<_;omega) (by show _<SF.many;omega) (by have :=Ut.o;show SF.T.levels.length≤_;omega) S4 b mi)
    rw [dx.o.1] at KC
    have ok4:=Xc.o.cE.conflict HIF.o mi
    have SK:=ae ok4.1
    have HV4:al (S4.vars=S.vars):=ok4.2.trans Ul.o
    clear mi ok4
    go_wp2_with fail
    refine KC.o.mono ?_
    clear KC
    rintro e w4 ⟨rfl,L4,h4,TY,eW⟩
    have H4:=ae h4
    have uS:=ae (aQ.aX dx.o TY cZ.o.size)
    have fM:=ae (aQ.aR dx.o cZ.o eW)
    clear h4 TY eW
    cases b with
    |false=>
     have FF:al (Dw Q L w (.returned (.int .i64 2)) w4):=⟨S4,2,hq,SK.o,rfl,L4,H4.o,uS.o,fM.o⟩
     clear hq
     go_wp2
     go_ret
     exact FF.o
    |true=>
     replace hq:if budget<((n+1:Nat):Int) then Q S4 0 else Sv.eJ red budget us Q D c0 next (n+1) S4:=hq
     by_cases RZ:budget<((n+1:Nat):Int)
     ·rw [if_pos RZ] at hq
      have afN:budget<(n:Int)+1:=by omega
      have FF:al (Dw Q L w (.returned (.int .i64 0)) w4):=⟨S4,0,hq,SK.o,rfl,L4,H4.o,uS.o,fM.o⟩
      clear hq RZ
      go_wp2
      go_ret
      exact FF.o
     ·rw [if_neg RZ] at hq
      have afN:(n:Int)+1≤budget:=by omega
      have oH:=ae hq
      obtain ⟨c1,rfl⟩:∃c1,c0=c1+1:=⟨c0-1,by
       rcases c0 with _ |c0
       ·exact absurd hq (by simp [Sv.eJ])
       ·omega⟩
      have AV:al (Sv.ib red budget us Q (Sv.eJ red budget us Q D c1) D next (n+1) S4):=oH.o
      clear hq RZ
      go_wp2
      go_roundg (c1*(D+1)+D)
      case measure=>have :=HG.o;rw [Nat.succ_mul] at this;omega
      case rel=>exact ⟨c1,D,next,n+1,S4,L4,rfl,rfl,by go_num,AV.o,HV4.o,SK.o,H4.o,uS.o,fM.o⟩
  |none=>
   have HFI:al (wh none= -1):=rfl
   rw [HFI.o]
   have HQ:=ae hw
   clear hw V6
   by_cases Fg:next ≤n
   ·have ZU:SF.de n next =SF.back 0:=by unfold Sv.de;rw [if_pos Fg]
    have tE:al ((if next ≤n then n+64 else next)=n+64):=if_pos Fg
    have KB:=ae (m6 w2 L2 SF H2.o 0 Xc.o 0 (by omega))
    rw [dx.o.1,←ZU] at KB
    have hwn:IntKind.i64.wrap ((n:Int)+64)=(n:Int)+64:=IntWalk.i64_in _ (by omega)
    have oG:=ae (Sv.sT Xc.o n next)
    have SI:=ae (Xc.o.de n next)
    clear ZU
    go_wp2_with fail
    refine KB.o.mono ?_
    clear KB
    rintro e w3 ⟨rfl,L3,h3,xD,dD⟩
    have H3:=ae h3
    have iu:=ae (aQ.aX dx.o xD cH.o.size)
    have cZ:=ae (aQ.aR dx.o cH.o dD)
    clear h3 xD dD Fg
    obtain ⟨SR,FJ⟩:∃SR,SF.de n next =SR:=⟨_,rfl⟩
    rw [FJ] at oG SI H3
    have hq:=HQ.o
    rw [FJ] at hq
    simp only [tE.o] at hq
    unfold Sv.yB at hq
    obtain ⟨-,-,-,-,-,-,-,-,-,-,-,LY,FZ,-⟩:=H3.o.cells
    rw [iu.o.1] at LY FZ
    obtain ⟨kd,hrl,ed,ZT,Nq,Ct⟩:=oG.o
    have Cs: -1152921504606846976≤SR.many∧SR.many≤1152921504606846976:=by rw [ZT];exact ⟨Vs,Vr⟩
    have Nl:SR.bP≤2199023255552:=by rw [Nq];exact Vq
    have uQ:al (SR.vars=S.vars):=kd.trans Ul.o
    have HCR:al (SR.core=[]):=ed.trans HCF.o
    have rO:al (SR.T.levels.length≤4398046511104):=aF Ct Ut.o
    clear FJ kd hrl ed ZT Nq Ct oG HQ
    by_cases Je:(SR.bP:Int)<SR.many
    ·rw [if_pos Je] at hq
     have Cv:red=true:=by
      cases red with
      |true=>rfl
      |false=>simp at hq
     rw [if_pos Cv] at hq
     have E0:decide ((SR.bP:Int)<SR.many)=true:=decide_eq_true Je
     have HQ:=ae hq
     have Nk:=Cs
     clear hq Je Cs
     go_wp2
     go_region
     obtain ⟨w4,yY⟩:∃w4,World.drew w3=w4:=⟨_,rfl⟩
     have PA:al (Fr [] w3 w4):=by rw [←yY];exact (Fr.refl [] _).drew
     rw [yY]
     have WO:=ae (HKR.o Cv w4 L3 SR (H3.o.keep PA.o) SI.o Nk.1 Nk.2)
     rw [iu.o.1] at WO
     have PB:al (Fr (L.own w) w w4):=cZ.o.aj (PA.o.mono (fun k hk=>by cases hk))
     clear yY LY FZ E0
     go_wp2_with fail
     refine WO.o.mono ?_
     clear WO
     rintro e w5 ⟨S5,Cu,rfl,L5,h5,uI,eu⟩
     have H5:=ae h5
     have nK:=ae (aQ.aX iu.o uI PB.o.size)
     have kN:=ae (aQ.aR iu.o PB.o eu)
     have DF:=ae Cu
     obtain ⟨DD,hD1,hD2,hD3,rfl⟩:=Cu
     have Fs:=Sv.kI DD SR
     have Md:=ae (Sv.Ok.OI DD SR SI.o)
     obtain ⟨S5,xZ⟩:∃S5,DD.foldl Sv.bW SR=S5:=⟨_,rfl⟩
     rw [xZ] at Fs Md H5 DF
     have HV5:al (S5.vars=S.vars):=Fs.2.1.trans uQ.o
     have Uz:al (S5.core=[]):=Fs.2.2.2.1.trans HCR.o
     have Xm:al (S5.T.levels.length≤4398046511104):=by show _≤_;rw [Fs.1];exact rO.o
     have Ry:S5.bP≤2199023255552:=by rw [Fs.2.2.2.2.1];exact Nl
     clear h5 uI eu hD1 hD2 hD3 Fs xZ
     obtain ⟨-,-,-,-,-,-,-,-,-,-,-,-,FZ,-⟩:=H5.o.cells
     rw [nK.o.1] at FZ
     have f12:=H5.o.obj.frozen 12
     rw [nK.o.1] at f12
     obtain ⟨lm,tn⟩:∃lm,S5.bP=lm:=⟨_,rfl⟩
     rw [tn] at FZ Ry
     have Xi:=ae tn
     have QW:IntKind.i64.wrap (((lm/16:Nat):Int)+1)=((lm/16:Nat):Int)+1:=IntWalk.i64_in _ (by omega)
     have Ly:IntKind.i64.wrap ((lm:Int)+(((lm/16:Nat):Int)+1))=(lm:Int)+(((lm/16:Nat):Int)+1):=IntWalk.i64_in _ (by omega)
     have GC:al ((lm:Int)+((lm:Int)/16+1)=((lm+(lm/16+1):Nat):Int)):=by show _=_;omega
     obtain ⟨g6,f6⟩:=H5.o.pk 12 (.int .i64 ((lm+(lm/16+1):Nat):Int)) S5.fy (by simp [oQ,Sv.fy,tn]) ⟨rfl,rfl,rfl,rfl,rfl,rfl,rfl⟩
     rw [nK.o.1] at g6 f6
     have h6:=g6.keep (Fr.refl [] _).drew
     have H6a:=ae h6
     have PE:=ae ((aQ.aR nK.o kN.o f6).drew)
     clear tn g6 f6 h6
     go_upto_region 16 with fail
     go_region
     rw [GC.o]
     obtain ⟨w6,tf⟩:∃w6,(w5.setCell ⟨L.a,12,none⟩ (.int .i64 ((lm+(lm/16+1):Nat):Int))).drew=w6:=⟨_,rfl⟩
     rw [tf] at H6a PE⊢
     have H6:=H6a
     have ik:=PE
     have pS:=nK
     have uk:=ae Md.o.fy
     have Gm:al (S5.fy.vars=S.vars):=HV5.o
     have Lm:al (S5.fy.core=[]):=Uz.o
     have DH:al (S5.fy.T.levels.length≤4398046511104):=Xm.o
     have HQ:=ae (HQ.o S5 DF.o)
     obtain ⟨S6,xY⟩:∃S6,S5.fy=S6:=⟨_,rfl⟩
     rw [xY] at HQ H6 uk Gm Lm DH
     clear xY tf FZ f12 QW Ly
     have KD:=ae (kh w6 L5 S6 H6.o 0 uk.o A c us (Yg.o.step pS.o ik.o) (fun x hx=>by have :=P8.o x hx;rw [Gm.o];exact this) xS Lm.o DH.o)
     rw [pS.o.1] at KD
     have Ff:=uk.o.aS us
     have AW:=ae Ff.1
     have Gl:al ((S6.aS us).1.vars=S.vars):=Ff.2.1.trans Gm.o
     have hq:=HQ.o
     obtain ⟨DS,Ou⟩:∃DS,S6.aS us=DS:=⟨_,rfl⟩
     rw [Ou] at KD AW Gl hq
     obtain ⟨S7,r⟩:=DS
     simp only at KD AW Gl hq
     clear Ff Ou HQ
     go_wp2_with fail
     refine KD.o.mono ?_
     clear KD
     rintro e w7 ⟨rfl,L7,h7,CQ,gG⟩
     have H7:=ae h7
     have AX:=ae (aQ.aX pS.o CQ ik.o.size)
     have rW:=ae (aQ.aR pS.o ik.o gG)
     clear h7 CQ gG
     by_cases lN:r=0
     ·rw [if_pos lN] at hq
      have tZ:(r==(0:Int))=true:=by simp [lN]
      have HQ:=ae hq
      clear hq
      go_wp2
      go_roundg (c0*(D+1)+d)
      case measure=>have :=HG.o;omega
      case rel=>exact ⟨c0,d,n+64,n,S7,L7,rfl,by go_num,rfl,HQ.o,Gl.o,AW.o,H7.o,AX.o,rW.o⟩
     ·rw [if_neg lN] at hq
      have tZ:(r==(0:Int))=false:=by simp [lN]
      have FF:al (Dw Q L w (.returned (.int .i64 r)) w7):=⟨S7,r,hq,AW.o,rfl,L7,H7.o,AX.o,rW.o⟩
      clear hq
      go_wp2
      go_ret
      exact FF.o
    ·rw [if_neg Je] at hq
     have E0:decide ((SR.bP:Int)<SR.many)=false:=decide_eq_false Je
     have HQ:=ae hq
     clear hq Je
     go_wp2
     go_region
     obtain ⟨w6,tf⟩:∃w6,World.drew w3=w6:=⟨_,rfl⟩
     have PB:al (Fr [] w3 w6):=by rw [←tf];exact (Fr.refl [] _).drew
     rw [tf]
     have H6:=ae (H3.o.keep PB.o)
     have pS:=iu
     have ik:al (Fr (L.own w) w w6):=cZ.o.aj (PB.o.mono (fun k hk=>by cases hk))
     have uk:=SI
     have Gm:=uQ
     have Lm:=HCR
     have DH:=rO
     obtain ⟨S6,xY⟩:∃S6,SR=S6:=⟨_,rfl⟩
     rw [xY] at HQ H6 uk Gm Lm DH
     clear xY tf LY FZ E0
     have KD:=ae (kh w6 L3 S6 H6.o 0 uk.o A c us (Yg.o.step pS.o ik.o) (fun x hx=>by have :=P8.o x hx;rw [Gm.o];exact this) xS Lm.o DH.o)
     rw [pS.o.1] at KD
     have Ff:=uk.o.aS us
     have AW:=ae Ff.1
     have Gl:al ((S6.aS us).1.vars=S.vars):=Ff.2.1.trans Gm.o
     have hq:=HQ.o
     obtain ⟨DS,Ou⟩:∃DS,S6.aS us=DS:=⟨_,rfl⟩
     rw [Ou] at KD AW Gl hq
     obtain ⟨S7,r⟩:=DS
     simp only at KD AW Gl hq
     clear Ff Ou HQ
     go_wp2_with fail
     refine KD.o.mono ?_
     clear KD
     rintro e w7 ⟨rfl,L7,h7,CQ,gG⟩
     have H7:=ae h7
     have AX:=ae (aQ.aX pS.o CQ ik.o.size)
     have rW:=ae (aQ.aR pS.o ik.o gG)
     clear h7 CQ gG
     by_cases lN:r=0
     ·rw [if_pos lN] at hq
      have tZ:(r==(0:Int))=true:=by simp [lN]
      have HQ:=ae hq
      clear hq
      go_wp2
      go_roundg (c0*(D+1)+d)
      case measure=>have :=HG.o;omega
      case rel=>exact ⟨c0,d,n+64,n,S7,L7,rfl,by go_num,rfl,HQ.o,Gl.o,AW.o,H7.o,AX.o,rW.o⟩
     ·rw [if_neg lN] at hq
      have tZ:(r==(0:Int))=false:=by simp [lN]
      have FF:al (Dw Q L w (.returned (.int .i64 r)) w7):=⟨S7,r,hq,AW.o,rfl,L7,H7.o,AX.o,rW.o⟩
      clear hq
      go_wp2
      go_ret
      exact FF.o
   ·have ZU:SF.de n next =SF:=by unfold Sv.de;rw [if_neg Fg]
    have tE:al ((if next ≤n then n+64 else next)=next):=if_neg Fg
    have oG:=ae (Sv.sT Xc.o n next)
    have SI:=ae (Xc.o.de n next)
    have H3:al (bf w2 L2 (SF.de n next)):=by rw [ZU];exact H2.o
    clear ZU
    obtain ⟨SR,FJ⟩:∃SR,SF.de n next =SR:=⟨_,rfl⟩
    rw [FJ] at oG SI H3
    have hq:=HQ.o
    rw [FJ] at hq
    simp only [tE.o] at hq
    unfold Sv.yB at hq
    obtain ⟨-,-,-,-,-,-,-,-,-,-,-,LY,FZ,-⟩:=H3.o.cells
    rw [dx.o.1] at LY FZ
    obtain ⟨kd,hrl,ed,ZT,Nq,Ct⟩:=oG.o
    have Cs: -1152921504606846976≤SR.many∧SR.many≤1152921504606846976:=by rw [ZT];exact ⟨Vs,Vr⟩
    have Nl:SR.bP≤2199023255552:=by rw [Nq];exact Vq
    have uQ:al (SR.vars=S.vars):=kd.trans Ul.o
    have HCR:al (SR.core=[]):=ed.trans HCF.o
    have rO:al (SR.T.levels.length≤4398046511104):=aF Ct Ut.o
    clear FJ kd hrl ed ZT Nq Ct oG HQ
    by_cases Je:(SR.bP:Int)<SR.many
    ·rw [if_pos Je] at hq
     have Cv:red=true:=by
      cases red with
      |true=>rfl
      |false=>simp at hq
     rw [if_pos Cv] at hq
     have E0:decide ((SR.bP:Int)<SR.many)=true:=decide_eq_true Je
     have HQ:=ae hq
     have Nk:=Cs
     clear hq Je Cs
     go_wp2
     go_region
     obtain ⟨w4,yY⟩:∃w4,World.drew w2=w4:=⟨_,rfl⟩
     have PA:al (Fr [] w2 w4):=by rw [←yY];exact (Fr.refl [] _).drew
     rw [yY]
     have WO:=ae (HKR.o Cv w4 L2 SR (H3.o.keep PA.o) SI.o Nk.1 Nk.2)
     rw [dx.o.1] at WO
     have PB:al (Fr (L.own w) w w4):=cH.o.aj (PA.o.mono (fun k hk=>by cases hk))
     clear yY LY FZ E0
     go_wp2_with fail
     refine WO.o.mono ?_
     clear WO
     rintro e w5 ⟨S5,Cu,rfl,L5,h5,uI,eu⟩
     have H5:=ae h5
     have nK:=ae (aQ.aX dx.o uI PB.o.size)
     have kN:=ae (aQ.aR dx.o PB.o eu)
     have DF:=ae Cu
     obtain ⟨DD,hD1,hD2,hD3,rfl⟩:=Cu
     have Fs:=Sv.kI DD SR
     have Md:=ae (Sv.Ok.OI DD SR SI.o)
     obtain ⟨S5,xZ⟩:∃S5,DD.foldl Sv.bW SR=S5:=⟨_,rfl⟩
     rw [xZ] at Fs Md H5 DF
     have HV5:al (S5.vars=S.vars):=Fs.2.1.trans uQ.o
     have Uz:al (S5.core=[]):=Fs.2.2.2.1.trans HCR.o
     have Xm:al (S5.T.levels.length≤4398046511104):=by show _≤_;rw [Fs.1];exact rO.o
     have Ry:S5.bP≤2199023255552:=by rw [Fs.2.2.2.2.1];exact Nl
     clear h5 uI eu hD1 hD2 hD3 Fs xZ
     obtain ⟨-,-,-,-,-,-,-,-,-,-,-,-,FZ,-⟩:=H5.o.cells
     rw [nK.o.1] at FZ
     have f12:=H5.o.obj.frozen 12
     rw [nK.o.1] at f12
     obtain ⟨lm,tn⟩:∃lm,S5.bP=lm:=⟨_,rfl⟩
     rw [tn] at FZ Ry
     have Xi:=ae tn
     have QW:IntKind.i64.wrap (((lm/16:Nat):Int)+1)=((lm/16:Nat):Int)+1:=IntWalk.i64_in _ (by omega)
     have Ly:IntKind.i64.wrap ((lm:Int)+(((lm/16:Nat):Int)+1))=(lm:Int)+(((lm/16:Nat):Int)+1):=IntWalk.i64_in _ (by omega)
     have GC:al ((lm:Int)+((lm:Int)/16+1)=((lm+(lm/16+1):Nat):Int)):=by show _=_;omega
     obtain ⟨g6,f6⟩:=H5.o.pk 12 (.int .i64 ((lm+(lm/16+1):Nat):Int)) S5.fy (by simp [oQ,Sv.fy,tn]) ⟨rfl,rfl,rfl,rfl,rfl,rfl,rfl⟩
     rw [nK.o.1] at g6 f6
     have h6:=g6.keep (Fr.refl [] _).drew
     have H6a:=ae h6
     have PE:=ae ((aQ.aR nK.o kN.o f6).drew)
     clear tn g6 f6 h6
     go_upto_region 16 with fail
     go_region
     rw [GC.o]
     obtain ⟨w6,tf⟩:∃w6,(w5.setCell ⟨L.a,12,none⟩ (.int .i64 ((lm+(lm/16+1):Nat):Int))).drew=w6:=⟨_,rfl⟩
     rw [tf] at H6a PE⊢
     have H6:=H6a
     have ik:=PE
     have pS:=nK
     have uk:=ae Md.o.fy
     have Gm:al (S5.fy.vars=S.vars):=HV5.o
     have Lm:al (S5.fy.core=[]):=Uz.o
     have DH:al (S5.fy.T.levels.length≤4398046511104):=Xm.o
     have HQ:=ae (HQ.o S5 DF.o)
     obtain ⟨S6,xY⟩:∃S6,S5.fy=S6:=⟨_,rfl⟩
     rw [xY] at HQ H6 uk Gm Lm DH
     clear xY tf FZ f12 QW Ly
     have KD:=ae (kh w6 L5 S6 H6.o 0 uk.o A c us (Yg.o.step pS.o ik.o) (fun x hx=>by have :=P8.o x hx;rw [Gm.o];exact this) xS Lm.o DH.o)
     rw [pS.o.1] at KD
     have Ff:=uk.o.aS us
     have AW:=ae Ff.1
     have Gl:al ((S6.aS us).1.vars=S.vars):=Ff.2.1.trans Gm.o
     have hq:=HQ.o
     obtain ⟨DS,Ou⟩:∃DS,S6.aS us=DS:=⟨_,rfl⟩
     rw [Ou] at KD AW Gl hq
     obtain ⟨S7,r⟩:=DS
     simp only at KD AW Gl hq
     clear Ff Ou HQ
     go_wp2_with fail
     refine KD.o.mono ?_
     clear KD
     rintro e w7 ⟨rfl,L7,h7,CQ,gG⟩
     have H7:=ae h7
     have AX:=ae (aQ.aX pS.o CQ ik.o.size)
     have rW:=ae (aQ.aR pS.o ik.o gG)
     clear h7 CQ gG
     by_cases lN:r=0
     ·rw [if_pos lN] at hq
      have tZ:(r==(0:Int))=true:=by simp [lN]
      have HQ:=ae hq
      clear hq
      go_wp2
      go_roundg (c0*(D+1)+d)
      case measure=>have :=HG.o;omega
      case rel=>exact ⟨c0,d,next,n,S7,L7,rfl,rfl,rfl,HQ.o,Gl.o,AW.o,H7.o,AX.o,rW.o⟩
     ·rw [if_neg lN] at hq
      have tZ:(r==(0:Int))=false:=by simp [lN]
      have FF:al (Dw Q L w (.returned (.int .i64 r)) w7):=⟨S7,r,hq,AW.o,rfl,L7,H7.o,AX.o,rW.o⟩
      clear hq
      go_wp2
      go_ret
      exact FF.o
    ·rw [if_neg Je] at hq
     have E0:decide ((SR.bP:Int)<SR.many)=false:=decide_eq_false Je
     have HQ:=ae hq
     clear hq Je
     go_wp2
     go_region
     obtain ⟨w6,tf⟩:∃w6,World.drew w2=w6:=⟨_,rfl⟩
     have PB:al (Fr [] w2 w6):=by rw [←tf];exact (Fr.refl [] _).drew
     rw [tf]
     have H6:=ae (H3.o.keep PB.o)
     have pS:=dx
     have ik:al (Fr (L.own w) w w6):=cH.o.aj (PB.o.mono (fun k hk=>by cases hk))
     have uk:=SI
     have Gm:=uQ
     have Lm:=HCR
     have DH:=rO
     obtain ⟨S6,xY⟩:∃S6,SR=S6:=⟨_,rfl⟩
     rw [xY] at HQ H6 uk Gm Lm DH
     clear xY tf LY FZ E0
     have KD:=ae (kh w6 L2 S6 H6.o 0 uk.o A c us (Yg.o.step pS.o ik.o) (fun x hx=>by have :=P8.o x hx;rw [Gm.o];exact this) xS Lm.o DH.o)
     rw [pS.o.1] at KD
     have Ff:=uk.o.aS us
     have AW:=ae Ff.1
     have Gl:al ((S6.aS us).1.vars=S.vars):=Ff.2.1.trans Gm.o
     have hq:=HQ.o
     obtain ⟨DS,Ou⟩:∃DS,S6.aS us=DS:=⟨_,rfl⟩
     rw [Ou] at KD AW Gl hq
     obtain ⟨S7,r⟩:=DS
     simp only at KD AW Gl hq
     clear Ff Ou HQ
     go_wp2_with fail
     refine KD.o.mono ?_
     clear KD
     rintro e w7 ⟨rfl,L7,h7,CQ,gG⟩
     have H7:=ae h7
     have AX:=ae (aQ.aX pS.o CQ ik.o.size)
     have rW:=ae (aQ.aR pS.o ik.o gG)
     clear h7 CQ gG
     by_cases lN:r=0
     ·rw [if_pos lN] at hq
      have tZ:(r==(0:Int))=true:=by simp [lN]
      have HQ:=ae hq
      clear hq
      go_wp2
      go_roundg (c0*(D+1)+d)
      case measure=>have :=HG.o;omega
      case rel=>exact ⟨c0,d,next,n,S7,L7,rfl,rfl,rfl,HQ.o,Gl.o,AW.o,H7.o,AX.o,rW.o⟩
     ·rw [if_neg lN] at hq
      have tZ:(r==(0:Int))=false:=by simp [lN]
      have FF:al (Dw Q L w (.returned (.int .i64 r)) w7):=⟨S7,r,hq,AW.o,rfl,L7,H7.o,AX.o,rW.o⟩
      clear hq
      go_wp2
      go_ret
      exact FF.o
end Go.Proofs.YtdgplmgfkliijaaGreat
