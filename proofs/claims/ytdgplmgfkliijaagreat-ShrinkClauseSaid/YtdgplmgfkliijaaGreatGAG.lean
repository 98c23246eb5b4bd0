/- Parts of a proof. -/
import Derived.Test.YtdgplmgfkliijaaGreatGAF
set_option linter.unusedVariables false
set_option linter.unusedSimpArgs false
set_option maxHeartbeats 8000000
set_option maxRecDepth 100000
namespace Go.Proofs.YtdgplmgfkliijaaGreat
open Go.RowKit
theorem Ds (w:World) (L:aQ) (S:Sv) (h:bf w L S) (m:Nat) (ok:S.Ok m) (a:Int) (ha0: -(S.vars:Int)≤a) (X3:a≤S.vars) (A:Option Addr) (c:Nat) (us:List Int) (hi:Rd w A us) (lM:∀x∈us,-(S.vars:Int)≤x∧x≤S.vars) (hal:us.length≤1099511627776) (aaG:L.gh A) (gI:S.core=[]):
  Calls Tryz.prog 137 #[.pointer (some ⟨L.a,0,none⟩), .int .i64 a, .slice A us.length c] w (oF (.tuple #[]) (S.wV a us) L w):=by
 have nF:=ok.vl
 obtain ⟨P5,R7⟩:∃P5,Sv.dB S S.T.lits.reverse [tv a] [a]=P5:=⟨_,rfl⟩
 obtain ⟨RC,hRC⟩:∃RC,Sv.gJ P5 us S.core=RC:=⟨_,rfl⟩
 have fh:S.wV a us={ S with core:=RC }:=by
  unfold Sv.wV
  rw [R7,hRC]
 rw [fh]
 have mF:al (∀W L',bf W L' { S with core:=RC }→L.ext L' w→Fr (L.own w) w W→oF (.tuple #[]) { S with core:=RC } L w (.returned (.tuple #[])) W):=fun W L' g1 g2 g3=>⟨rfl,L',g1,g2,g3⟩
 have xz:=@run_makeMap Tryz.prog
 obtain ⟨va,Vd⟩:∃va,tv a=va:=⟨_,rfl⟩
 obtain ⟨qx,Ni⟩:=vq ha0 X3 nF
 have vI:=Mq ha0 X3 nF
 rw [Vd] at qx vI R7
 obtain ⟨w1,Hm,vO,cU⟩:=(qC.new w).store (v:=va) (by decide) ⟨by omega,by omega⟩
 have dy:al (Fr [] w w1):=((Fr.refl [] w).alloc _).trans cU (fun k hk=>by simp at hk;subst hk;exact .inr (au _))
 obtain ⟨w2,TH,pF,bZ⟩:=(qC.new w1).store (v:=a) (by decide) ⟨by omega,by omega⟩
 have aco:al (Fr [] w1 w2):=((Fr.refl [] w1).alloc _).trans bZ (fun k hk=>by simp at hk;subst hk;exact .inr (au _))
 have cH:al (Fr [] w w2):=dy.o.aj aco.o
 have Mf:=ae (vO.keep aco.o)
 have Gt:=ae pF
 have nH:w.heap.size<w1.heap.size:=vO.lt
 have P9:=ae nH
 obtain ⟨bm,RX⟩:∃bm,w1.heap.size=bm:=⟨_,rfl⟩
 obtain ⟨bg,RZ⟩:∃bg,w.heap.size=bg:=⟨_,rfl⟩
 rw [RX] at nH TH Gt
 rw [RZ] at nH Hm Mf
 have HH:=ae h
 have kM:=ae ok
 have ab2:=ae R7
 have Un:=ae hRC
 have HBG:=ae RZ
 have HBM:=ae RX
 have Iy:=ae nH
 have HI:=ae hi
 have nv:=ae lM
 have acn:=ae aaG
 have HCO:=ae gI
 obtain ⟨c0,-,-,c3,-⟩:=h.cells
 have uT:=ae c0
 have DN:=ae c3
 have Pq:=ae ok.fQ
 have c0:=cH.o.aT uT.o
 have KL:=ae (ko w2 L.tL S.T (h.tr.fr cH.o (by simp)))
 have sD:=ok.fQ
 have CG:=h.ni
 have amJ:=ok.ll
 have HWR:al (∀x,∀n:Nat,∀k,x=S.T.lits[k]! →k<S.T.lits.length→n=n):=fun _ _ _ _ _=>rfl
 clear cU bZ vO pF c3 h ok R7 hRC hi lM aaG gI ha0 X3 Vd fh HWR
 go_enter Tryz.func137,Tryz.ntmps137
 go_wp2_with fail
 refine KL.o.mono ?_
 clear KL
 rintro e w3 ⟨rfl,rfl⟩
 clear Hm TH c0 qx Ni
 have dO:IntKind.i64.wrap ((S.T.lits.length:Int)-1)=(S.T.lits.length:Int)-1:=IntWalk.i64_in _ (by omega)
 go_wp2_with fail
 clear dO
 go_loopg [8] S.T.lits.length (fun g x8 wr=>∃(n1 n2:Nat) (g1 kE:List Int),g≤S.T.lits.length∧x8= .int .i64 ((g:Int)-1)∧al (Sv.dB S (S.T.lits.take g).reverse g1 kE=P5)∧al (qC wr bg n1 g1)∧al (qC wr bm n2 kE)∧n1+1048577*g≤300000000000∧n2+g≤262145∧al (Fr [] w wr))
 case atStart=>exact ⟨1,1,[va],[a],au _,rfl,by show _=_;rw [eD];exact ab2.o,Mf.o,Gt.o,by omega,by omega,cH.o⟩
 case round=>
  obtain ⟨n1,n2,g1,kE,hk,rfl,HB,HG,HT,oZ,ot,HF⟩:=hrel
  have tE:=ae oZ
  have jN:=ae ot
  clear oZ ot
  cases gk with
  |zero=>
   have HME:al (kE=P5):=by
    have :=HB.o
    show _=_
    simpa [Sv.dB] using this
   clear HB tE HG
   go_wp2_with fail
   have H1:=ae (HH.o.shut.keep HF.o)
   have eG:=ae (L.lY w)
   have HFO:al (Fr (L.own w) w wr):=HF.o.mono (fun k hk=>by cases hk)
   have Lc:al (((L.shut w).cQ bm).1≠(L.shut w).id):=aQ.ju (by have :=Iy.o;have :=HBG.o;omega)
   have uR:=ae (HI.o.keep HF.o)
   have HFA:al ((L.shut w).gh A):=fun k hk=>by
    rcases bK k w.heap.size with h1 |h1
    ·rw [aQ.qag h1];exact acn.o k hk
    ·exact aQ.ju h1
   have Ru:=HME.o
   subst Ru
   have HSC:al (({ S with core:=[] }:Sv)=S):=(congrArg (fun l=>({ S with core:=l }:Sv)) HCO.o).symm
   have W9:al (Ra us):=(dW (p:=dY)).2 fun x hx=>by
    have :=nv.o x hx
    constructor<;>omega
   have ahf:al (Sv.gJ kE us []=RC):=by
    have :=Un.o
    rw [HCO.o] at this
    exact this
   clear HF HI acn ab2 Mf Gt uT DN Un HME
   go_loopg [90] us.length (fun g x90 wi=>∃(k:Nat) (c1:List Int) (L1:aQ),k+g=us.length∧x90= .int .i64 k∧al (Sv.gJ kE (us.drop k) c1=RC)∧al (bf wi L1 { S with core:=c1 })∧al (L.ext L1 w)∧al (Fr (L.own w) w wi)∧al (qC wi bm n2 kE)∧al ((L1.cQ bm).1≠L1.id)∧al (Rd wi A us)∧al (L1.gh A)∧c1.length≤k∧al (Ra c1))
   case atStart=>exact ⟨0,[],L.shut w,by omega,rfl,ahf.o,HSC.o.symm▸H1.o,eG.o,HFO.o,HT.o,Lc.o,uR.o,HFA.o,au _,fun j hj=>absurd hj (aI _)⟩
   case round=>
    obtain ⟨k,c1,L1,hk,rfl,HB,H2,dx,PG,Mc,SO,uj,SX,qf,DE⟩:=hrel
    have HK:=ae hk
    have nI:k≤us.length:=by omega
    clear hk
    by_cases bM:k<us.length
    ·obtain ⟨b,o,x,hA,he,cx,ij,ix⟩:=uj.o.one W9.o bM
     subst hA
     have tZ:us.drop k=x::us.drop (k+1):=by
      rw [List.drop_eq_getElem_cons bM,←he.o]
      simp only [aa,af bM,ay]
     have Qg:=ae tZ
     have jL:=Mc.o.look (v:=x) ⟨ij,ix⟩
     clear tZ
     by_cases hm:x∈kE
     ·have rh:decide (x∈kE)=true:=decide_eq_true hm
      rw [rh] at jL
      have HM:=ae hm
      obtain ⟨-,-,-,-,-,-,-,c7,-⟩:=H2.o.cells
      rw [dx.o.1] at c7
      simp only at c7
      have HC7:=ae c7
      have KC:=ae (qah wr L1.oA L1.oC c1 x H2.o.tO.rd DE.o (by omega))
      obtain ⟨q,hq⟩:∃q,c1.any (x== ·)=q:=⟨_,rfl⟩
      rw [hq] at KC
      have HQ:=ae hq
      clear hm rh hq
      go_wp2_with fail
      refine KC.o.mono ?_
      clear KC jL cx c7
      rintro e w3 ⟨rfl,hf⟩
      have cZ:=ae hf
      have c7:=cZ.o.aT HC7.o
      clear hf
      cases q with
      |true=>
       have qE:al (Sv.gJ kE (us.drop (k+1)) c1=RC):=by
        have :=HB.o
        rw [Qg.o,Sv.gJ,if_neg (by
         rintro ⟨_,h2⟩
         have :=HQ.o
         rw [bI] at this
         obtain ⟨y,im,kS⟩:=this
         exact h2 ((beq_iff_eq.1 kS)▸im))] at this
        exact this
       clear c7
       go_wp2
       go_roundg (gk-1)
       case measure=>have :=HK.o;omega
       case rel=>exact ⟨k+1,c1,L1,by have :=HK.o;omega,by go_num,qE.o,H2.o.keep cZ.o,dx.o,PG.o.aj (cZ.o.mono (fun k hk=>by cases hk)),Mc.o.keep cZ.o,SO.o,uj.o.keep cZ.o,SX.o,by omega,DE.o⟩
      |false=>
       have qE:al (Sv.gJ kE (us.drop (k+1)) (c1++[x])=RC):=by
        have :=HB.o
        rw [Qg.o,Sv.gJ,if_pos ⟨HM.o,by
         intro h2
         have :=HQ.o
         rw [List.any_eq_false] at this
         exact this x h2 (beq_self_eq_true x)⟩] at this
        exact this
       have H3:=ae (H2.o.keep cZ.o)
       have aab:L.a∉ap L1.oA:=fun hm=>by
        have e1:=H2.o.t7 _ hm
        rw [←dx.o.1,H2.o.t0] at e1
        simp at e1
       have HN7:=ae aab
       have Br:al (Fr [] w3 (w3.alloc (.cells #[.int .i64 x] 3))):=aN _ _
       have PN:al ((w3.alloc (.cells #[.int .i64 x] 3)).cell? ⟨w3.heap.size,0,none⟩=some (.int .i64 x)):=(At.new w3 _ _).cell 0
       have Pv:=ae (H3.o.tO.dX Br.o)
       have zo:al (∀w5,Fr (ap L1.oA) (w3.alloc (.cells #[.int .i64 x] 3)) w5→w5.cell? ⟨L.a,7,none⟩=some (.slice L1.oA c1.length L1.oC)∧w5.frozen? ⟨L.a,7,none⟩=false):=fun w5 eu=>by
        have c7':=Br.o.aT (cZ.o.aT HC7.o)
        have f7:=(H3.o.keep Br.o).obj.frozen 7
        rw [dx.o.1] at f7
        exact ⟨eu.bD HN7.o c7',(World.frozen?_of_block (eu.block L.a (bE c7') HN7.o)).trans f7⟩
       have D0:c1.length<17592186044416:=by omega
       have Uy:=ae D0
       clear aab D0
       go_wp2_with (at_builtin;(refine cT _ rfl _ _ rfl L1.oA L1.oC c1 _ rfl rfl Pv.o ⟨w3.heap.size,0,none⟩ 1 x rfl PN.o Uy.o ?_;intro g5 Wz w5 uH eu RM hs5;obtain ⟨s7,f7⟩:=zo.o w5 eu))
       have aaJ:Fr (ap L1.oA) w3 w5:=(Br.o.mono (fun k hk=>by cases hk)).aj eu
       obtain ⟨L6,h6,N6,fN,X6⟩:=H3.o.oN uH aaJ (fun k hk hl=>H3.o.t7 k hk) (fun k hk=>by
        simp [ap] at hk
        subst hk
        rcases RM with h5 |h5
        ·exact .inl ⟨H3.o.tO.lt _ h5,H3.o.t7 _ h5⟩
        ·right
         rw [h5]
         simp)
       rw [dx.o.1,ai,bF] at h6 fN
       have H6:=ae h6
       have ZL:w.heap.size≤w3.heap.size:=aF PG.o.size cZ.o.size
       have pS:=ae (aQ.aX dx.o N6 ZL)
       have ik:=ae (aQ.aR dx.o (PG.o.aj (cZ.o.mono (fun k hk=>by cases hk))) fN)
       have X0:bm<w3.heap.size:=aK Mc.o.lt cZ.o.size
       have HT6:=ae ((Mc.o.keep cZ.o).fr fN (aQ.mN SO.o))
       have ahw:al ((L6.cQ bm).1≠L6.id):=by
        show _≠_
        rw [X6]
        simp only
        rw [aQ.ic X0]
        exact SO.o
       have K8:=ae ((uj.o.keep cZ.o).frF fN (fun k hk=>aQ.mN (SX.o k hk)))
       have ahZ:al (L6.gh (some ⟨b,o,none⟩)):=fun k hk=>by
        rw [X6]
        simp only
        rw [aQ.ic ((uj.o.keep cZ.o).blk (by omega) k hk)]
        exact SX.o k hk
       have ahg:al (Ra (c1++[x])):=(dW (p:=dY)).2 fun y hy=>by
        rcases ag.1 hy with h5 |h5
        ·exact (dW (p:=dY)).1 DE.o y h5
        ·simp at h5;rw [h5];exact ⟨ij,ix⟩
       clear h6 N6 fN X6 aaJ uH eu RM hs5 X0 ZL s7 f7
       go_roundg (gk-1)
       case measure=>have :=HK.o;omega
       case rel=>exact ⟨k+1,c1++[x],L6,by have :=HK.o;omega,by go_num,qE.o,H6.o,pS.o,ik.o,HT6.o,ahw.o,K8.o,ahZ.o,by simp;omega,ahg.o⟩
     ·have rh:decide (x∈kE)=false:=decide_eq_false hm
      rw [rh] at jL
      have qE:al (Sv.gJ kE (us.drop (k+1)) c1=RC):=by
       have :=HB.o
       rw [Qg.o,Sv.gJ,if_neg (fun h=>hm h.1)] at this
       exact this
      clear hm rh
      go_wp2
      go_roundg (gk-1)
      case measure=>have :=HK.o;omega
      case rel=>exact ⟨k+1,c1,L1,by have :=HK.o;omega,by go_num,qE.o,H2.o,dx.o,PG.o,Mc.o,SO.o,uj.o,SX.o,by omega,DE.o⟩
    ·obtain rfl :k=us.length:=by omega
     have Xq:al (c1=RC):=by
      have :=HB.o
      rw [List.drop_length] at this
      exact this
     have LR:=Xq.o
     subst LR
     have FF:=ae (mF.o _ L1 H2.o dx.o PG.o)
     clear HB HK
     go_wp2_with fail
     go_end0
     exact FF.o
  |succ i=>
   have tp:i<S.T.lits.length:=by omega
   obtain ⟨ij,ix,Nc,Nb,XM⟩:=kM.o.oO tp
   obtain ⟨l,hl⟩:∃l,S.T.lits[i]! =l:=⟨_,rfl⟩
   rw [hl] at ij ix Nc Nb XM
   have HL:=ae hl
   obtain ⟨v,hv⟩:∃v,tv l=v:=⟨_,rfl⟩
   obtain ⟨qx,Ni⟩:=vq Nc Nb nF
   rw [hv] at qx ij ix
   have HV:=ae hv
   have nJ:((i+1:Nat):Int)-1=(i:Int):=by omega
   have c0:=HF.o.aT uT.o
   have KA:=ae (ku wr L.tL S.T (HH.o.tr.fr HF.o (by simp)) (i:Int))
   rw [pd tp,hl] at KA
   have Qj:al (Sv.dB S (l::(S.T.lits.take i).reverse) g1 kE=P5):=by
    have :=HB.o
    rw [qP tp,hl] at this
    exact this
   rw [nJ]
   clear HB hl hv
   go_wp2_with fail
   refine KA.o.mono ?_
   clear KA
   rintro e w4 ⟨rfl,rfl⟩
   by_cases hg:v∈g1
   ·have jL:=HG.o.look (v:=v) ⟨by omega,by omega⟩
    have rh:decide (v∈g1)=true:=decide_eq_true hg
    rw [rh] at jL
    have HGM:=ae hg
    clear hg rh
    have KV:=ae (jt wr L.tL S.T (HH.o.tr.fr HF.o (by simp)) v)
    obtain ⟨lv,lI⟩:∃lv,S.T.da v=lv:=⟨_,rfl⟩
    rw [lI] at KV
    have Xf:=ae lI
    clear lI
    go_wp2_with fail
    refine KV.o.mono ?_
    clear KV
    rintro e w5 ⟨rfl,rfl⟩
    clear jL qx Ni
    by_cases hz:lv=0
    ·have hd:(lv==0)=true:=by simp [hz]
     have W4:al (Sv.dB S (S.T.lits.take i).reverse g1 kE=P5):=by
      have :=Qj.o
      rw [Sv.tz (.inr (by rw [HV.o,Xf.o];exact hz))] at this
      exact this
     clear hz
     go_wp2
     go_roundg i
     case measure=>omega
     case rel=>exact ⟨n1,n2,g1,kE,by omega,rfl,W4.o,HG.o,HT.o,by have :=tE.o;omega,by have :=jN.o;omega,HF.o⟩
    ·have hd:(lv==0)=false:=by simp [hz]
     have iZ:=kM.o.rs v
     have KR:=ae (j6 wr L.tL S.T (HH.o.tr.fr HF.o (by simp)) v)
     obtain ⟨r,hr⟩:∃r:Nat,S.T.fe v=r:=⟨(S.T.fe v).toNat,by omega⟩
     rw [hr] at KR iZ
     have HR:=ae hr
     clear hr
     cases r with
     |zero=>
      obtain ⟨w6,gU,hm6,fN⟩:=HT.o.store (v:=l) (by have :=jN.o;unfold maxLen;omega) ⟨by omega,by omega⟩
      have ik:al (Fr [] wr w6→True):=fun _=>trivial
      have W4:al (Sv.dB S (S.T.lits.take i).reverse g1 (l::kE)=P5):=by
       have :=Qj.o
       rw [Sv.F1 (by rw [HV.o];exact HGM.o) (by rw [HV.o,Xf.o];exact hz) (by rw [HV.o,HR.o];omega)] at this
       exact this
      have HM6:=ae hm6
      have HG6:=ae (HG.o.fr fN (by simp;have :=Iy.o;omega))
      have Xs:al (Fr [] w w6):=HF.o.trans fN (fun k hk=>by simp at hk;subst hk;right;have :=Iy.o;have :=HBG.o;omega)
      clear hm6 fN hz
      go_wp2_with fail
      refine KR.o.mono ?_
      clear KR
      rintro e w5 ⟨rfl,rfl⟩
      go_wp2
      go_roundg i
      case measure=>omega
      case rel=>exact ⟨n1,n2+1,g1,l::kE,by omega,rfl,W4.o,HG6.o,HM6.o,by have :=tE.o;omega,by have :=jN.o;omega,Xs.o⟩
     |succ n=>
      have qw:n<S.list.length:=by omega
      have dO:IntKind.i64.wrap (((n+1:Nat):Int)-1)=(n:Int):=by rw [IntKind.wrap_i64];omega
      have rl:decide ((n:Int)<0)=false:=decide_eq_false (by omega)
      obtain ⟨gc,i9,x0,-,-⟩:=(HH.o.keep HF.o).pB (n:=n) (by rw [CG];exact qw)
      have mt:=ae ((HH.o.keep HF.o).pr n (by rw [CG];exact qw))
      have ed:=HH.o.pD (n:=n) (by rw [CG];exact qw)
      have jA:=fun k hk=>kM.o.lit (n:=n) (k:=k) hk
      have xB:=kM.o.lb n
      rw [ed] at jA xB
      obtain ⟨⟨A9,c9,l9,b9,t9⟩,EY⟩:∃x,L.cs[n]! =x:=⟨_,rfl⟩
      rw [EY] at x0 mt ed jA xB
      simp only [Cw.rc] at x0 mt ed jA xB
      have Gw:=ae jA
      have rR:n<L.cs.length:=by omega
      have c3:=HF.o.aT DN.o
      rw [i9] at c3
      have W4:al (Sv.dB S (S.T.lits.take i).reverse (l9.map tv++g1) kE=P5):=by
       have :=Qj.o
       rw [Sv.Kn (by rw [HV.o];exact HGM.o) (by rw [HV.o,Xf.o];exact hz) (by rw [HV.o,HR.o];omega),HV.o,HR.o,show (((n+1:Nat):Int)-1).toNat=n from by omega,ed] at this
       exact this
      have Um:al (Ints w A9 c9 l9):=by
       have :=HH.o.pr n rR
       rw [EY] at this
       exact this
      clear ed jA EY hz i9
      go_wp2_with fail
      refine KR.o.mono ?_
      clear KR
      rintro e w5 ⟨rfl,rfl⟩
      go_wp2_with fail
      clear c0 c3 x0 dO rl mt
      go_loopg [78] l9.length (fun g2 x78 wi=>∃(j:Nat),j+g2=l9.length∧x78= .int .i64 j∧al (qC wi bg (n1+j) ((l9.take j).map tv++g1))∧al (qC wi bm n2 kE)∧al (Fr [] w wi))
      case atStart=>exact ⟨0,by omega,rfl,HG.o,HT.o,HF.o⟩
      case round=>
       obtain ⟨j,hj,rfl,HGi,HTi,HFi⟩:=hrel
       have HJ:=ae hj
       have DW:j≤l9.length:=by omega
       clear hj
       by_cases bM:j<l9.length
       ·obtain ⟨jJ,im,kS⟩:=Gw.o j bM
        obtain ⟨gb,hA9,sE⟩:=Um.o.pos bM
        subst hA9
        have cy:=(Um.o.dX HFi.o).cell bM
        obtain ⟨y,hy⟩:∃y,l9[j]! =y:=⟨_,rfl⟩
        rw [hy] at jJ im kS cy
        have hty:=Mq im kS nF
        obtain ⟨qx,Ni⟩:=vq im kS nF
        obtain ⟨ty,Ve⟩:∃ty,tv y=ty:=⟨_,rfl⟩
        rw [Ve] at hty qx
        obtain ⟨w6,gU,hm6,fN⟩:=HGi.o.store (v:=ty) (by have :=tE.o;unfold maxLen;omega) ⟨by omega,by omega⟩
        have HM6:al (qC w6 bg (n1+(j+1)) ((l9.take (j+1)).map tv++g1)):=hm6.congr (fun x=>by
         have :=Aa bM g1 x
         rw [hy,Ve] at this
         exact this)
        have HT6:=ae (HTi.o.fr fN (by simp;have :=Iy.o;omega))
        have Xs:al (Fr [] w w6):=HFi.o.trans fN (fun k hk=>by simp at hk;subst hk;right;have :=HBG.o;omega)
        clear hm6 fN Ve hy
        go_wp2
        go_roundg (gk-1)
        case measure=>have :=HJ.o;omega
        case rel=>exact ⟨j+1,by have :=HJ.o;omega,by go_num,HM6.o,HT6.o,Xs.o⟩
       ·obtain rfl :j=l9.length:=by omega
        have HGE:al (qC wr bg (n1+l9.length) (l9.map tv++g1)):=by
         have :=HGi.o
         rw [eD] at this
         exact this
        clear HJ HGi
        go_wp2
        go_roundg i
        case measure=>omega
        case rel=>exact ⟨n1+l9.length,n2,l9.map tv++g1,kE,by omega,rfl,W4.o,HGE.o,HTi.o,by have :=tE.o;omega,by have :=jN.o;omega,HFi.o⟩
   ·have jL:=HG.o.look (v:=v) ⟨by omega,by omega⟩
    have rh:decide (v∈g1)=false:=decide_eq_false hg
    rw [rh] at jL
    have W4:al (Sv.dB S (S.T.lits.take i).reverse g1 kE=P5):=by
     have :=Qj.o
     rw [Sv.tz (.inl (by rw [HV.o];exact hg))] at this
     exact this
    clear hg rh
    go_wp2
    go_roundg i
    case measure=>omega
    case rel=>exact ⟨n1,n2,g1,kE,by omega,rfl,W4.o,HG.o,HT.o,by have :=tE.o;omega,by have :=jN.o;omega,HF.o⟩
def Bk (w:World) (L:aQ) (A:Option Addr) (us:List Int):Prop:=Rd w A us∧(0<us.length→L.gh A)
theorem Ax {w:World} {L L':aQ} {A:Option Addr} (he:L.ext L' w) (hf:L.gh A) (hb:∀k,k∈ap A→k<w.heap.size):L'.gh A:=fun k hk e=>
 hf k hk (he.2.2 k (hb k hk) (e.trans he.2.1))
theorem Bk.step {w w':World} {L L':aQ} {A:Option Addr} {us:List Int} (h:Bk w L A us) (he:L.ext L' w) (hf:Fr (L.own w) w w'):Bk w' L' A us:=by
 refine ⟨fun h0=> ?_,fun h0=>Ax he (h.2 h0) (h.1.blk h0)⟩
 exact (h.1.frF hf (fun k hk=>aQ.mN (h.2 h0 k hk))) h0
theorem Bk.keep {w w':World} {L:aQ} {A:Option Addr} {us:List Int} (h:Bk w L A us) (hf:Fr [] w w'):Bk w' L A us:=⟨h.1.keep hf,h.2⟩
theorem qk (w:World) (L:aQ) (S:Sv) (h:bf w L S) (m:Nat) (ok:S.Ok m) (hd:S.T.levels.length<17592186044416):
  Calls Tryz.prog 138 #[.pointer (some ⟨L.tL.a,0,none⟩)] w fun e w'=>(∃x,e= .returned x)∧∃L',bf w' L' S.deep∧L.ext L' w∧Fr (L.own w) w w':=by
 obtain ⟨R,hR⟩:=ok.tr
 have hs:=hR.size
 refine (zF w L.tL S.T h.tr (by omega) hd).mono ?_
 rintro e w' ⟨rfl,YA,h1,h2,h3⟩
 exact ⟨⟨_,rfl⟩,h.qab h1 h2 h3⟩
theorem mc (w:World) (L:aQ) (S:Sv) (h:bf w L S) (m:Nat) (ok:S.Ok m) (l r:Int) (h0: -(S.vars:Int)≤l) (h1:l≤S.vars):
  Calls Tryz.prog 53 #[.pointer (some ⟨L.tL.a,0,none⟩), .int .i64 l, .int .i64 r] w fun e w'=>(∃x,e= .returned x)∧∃L',bf w' L' (S.put l r)∧L.ext L' w∧Fr (L.own w) w w':=by
 have hl:=ok.fQ
 have hv:=ok.vl
 refine (rY w L.tL S.T h.tr l r (by omega) (by omega) (by omega)).mono ?_
 rintro e w' ⟨rfl,YA,h1,h2,h3⟩
 exact ⟨⟨_,rfl⟩,h.qab h1 h2 h3⟩
namespace Sv
theorem Ok.deep {S:Sv} {m:Nat} (ok:S.Ok m):S.deep.Ok m:=by
 obtain ⟨R,hR⟩:=ok.tr
 refine ⟨ok.vl,⟨R,?_⟩,ok.hi,ok.hl,ok.ph,ok.wl,ok.ll,ok.wb,ok.wt,ok.lr,ok.ln,ok.lb,ok.hd,ok.rs⟩
 have :=hR.deep
 simpa [Sv.deep,Tr.wK] using this
theorem dG (S:Sv):S.deep.T.levels.length=S.T.levels.length+1:=by simp [Sv.deep,Tr.wK]
theorem dF (S:Sv) (l r:Int):(S.put l r).T.levels=S.T.levels:=by
 unfold Sv.put
 simp only
 split<;>rfl
theorem Ok.choose {S:Sv} {m:Nat} (ok:S.Ok m):S.choose.1.Ok m∧S.choose.1.vars=S.vars∧S.choose.1.list=S.list∧S.choose.1.T.levels.length≤S.T.levels.length+1:=by
 have hp:=ok.pick
 unfold Sv.choose
 split
 ·exact ⟨hp.1.keep,hp.2.2.1,hp.2.2.2.1,by show S.pick.1.T.levels.length≤_;rw [hp.2.1];omega⟩
 ·refine ⟨hp.1.deep.put ⟨by omega,by omega⟩,hp.2.2.1,hp.2.2.2.1,?_⟩
  rw [dF,dG,hp.2.1]
  omega
theorem AG {S:Sv} {us:List Int} {f:Nat} (h:¬S.T.levels.length<us.length):bv us f S=S.choose:=by
 cases f with
 |zero=>rfl
 |succ f=>rw [bv,if_neg h]
theorem Ok.bv {us:List Int} {m:Nat}:∀(f:Nat) (S:Sv),S.Ok m→(Sv.bv us f S).1.Ok m∧(Sv.bv us f S).1.vars=S.vars∧(Sv.bv us f S).1.list=S.list∧(Sv.bv us f S).1.T.levels.length≤max S.T.levels.length us.length+1
 |0,S,ok=>by
  have h:=ok.choose
  exact ⟨h.1,h.2.1,h.2.2.1,by have :=h.2.2.2;show S.choose.1.T.levels.length≤_;omega⟩
 |f+1,S,ok=>by
  rw [Sv.bv]
  split
  ·rename_i bM
   simp only
   split
   ·exact ⟨ok.oN _,rfl,rfl,by show S.T.levels.length≤_;omega⟩
   ·split
    ·refine ⟨ok.deep.put ⟨by omega,by omega⟩,rfl,rfl,?_⟩
     rw [dF,dG]
     omega
    ·have ih:=Ok.bv (us:=us) f S.deep ok.deep
     refine ⟨ih.1,ih.2.1,ih.2.2.1,?_⟩
     have :=ih.2.2.2
     rw [dG] at this
     omega
  ·have h:=ok.choose
   exact ⟨h.1,h.2.1,h.2.2.1,by have :=h.2.2.2;omega⟩
theorem Ok.aS {S:Sv} {m:Nat} (ok:S.Ok m) (us:List Int):(S.aS us).1.Ok m∧(S.aS us).1.vars=S.vars∧(S.aS us).1.list=S.list∧(S.aS us).1.T.levels.length≤max S.T.levels.length us.length+1:=Ok.bv _ S ok
end Sv
theorem kh (w:World) (L:aQ) (S:Sv) (h:bf w L S) (m:Nat) (ok:S.Ok m) (A:Option Addr) (c:Nat) (us:List Int) (rQ:Bk w L A us) (yZ:∀x∈us,-(S.vars:Int)≤x∧x≤S.vars) (xS:us.length≤1099511627776) (gI:S.core=[]) (JX:S.T.levels.length≤4398046511104):
  Calls Tryz.prog 110 #[.pointer (some ⟨L.a,0,none⟩), .slice A us.length c] w (oF (.int .i64 (S.aS us).2) (S.aS us).1 L w):=by
 obtain ⟨dC,fh⟩:∃dC,S.aS us=dC:=⟨_,rfl⟩
 have eP:al (Sv.bv us (us.length+1) S=dC):=fh
 rw [fh]
 have mF:al (∀(S':Sv) (r:Int),dC=(S',r)→∀W L',bf W L' S'→L.ext L' w→Fr (L.own w) w W→oF (.int .i64 dC.2) dC.1 L w (.returned (.int .i64 r)) W):=fun S' r e W L' g1 g2 g3=>by
  subst e
  exact ⟨rfl,L',g1,g2,g3⟩
 have HH:=ae h
 have kM:=ae ok
 have Yg:=ae rQ
 have P8:=ae yZ
 have HCO:=ae gI
 have nF:=ok.vl
 clear fh h ok rQ yZ gI
 go_enter Tryz.func110,Tryz.ntmps110
 go_wp2_with fail
 go_loopg [] (us.length+1) (fun g wr=>∃(S1:Sv) (L1:aQ),al (Sv.bv us g S1=dC)∧us.length+1≤g+S1.T.levels.length∧S1.T.levels.length≤8796093022208∧al (S1.vars=S.vars)∧al (S1.core=[])∧al (S1.Ok m)∧al (bf wr L1 S1)∧al (L.ext L1 w)∧al (Fr (L.own w) w wr))
 case atStart=>exact ⟨S,L,eP.o,by omega,by omega,rfl,HCO.o,kM.o,HH.o,aQ.co _ _,Fr.refl _ _⟩
 case round=>
  obtain ⟨S1,L1,uR,hg,DX,HV1,pu,j4,H1,eG,dy⟩:=hrel
  have HG:=ae hg
  have lO:L1.a=L.a:=eG.o.1
  obtain ⟨c0,-⟩:=H1.o.cells
  rw [lO] at c0
  have Xu:=ae lO
  have uT:=ae c0
  have KD:=ae (lf wr L1.tL S1.T H1.o.tr)
  obtain ⟨d,hd⟩:∃d,S1.T.levels.length=d:=⟨_,rfl⟩
  rw [hd] at KD DX
  have HD:=ae hd
  have Ph:=ae (Yg.o.step eG.o dy.o)
  clear lO hg hd
  have jT:S1.vars=S.vars:=HV1.o
  by_cases bM:d<us.length
  ·obtain ⟨f,rfl⟩:∃f,gk=f+1:=⟨gk-1,by have :=HG.o;have :=HD.o;omega⟩
   have W9:al (Ra us):=(dW (p:=dY)).2 fun x hx=>by
    have :=P8.o x hx
    constructor<;>omega
   obtain ⟨b,o,x,hA,he,cx,ij,ix⟩:=Ph.o.1.one W9.o bM
   subst hA
   have XL:=P8.o x (by rw [←he.o];exact bu bM)
   obtain ⟨y,hy⟩:∃y,S1.T.kQ x=y:=⟨_,rfl⟩
   have KV:=ae (dQ wr L1.tL S1.T H1.o.tr x ij ix j4.o.small)
   rw [hy] at KV
   have HY:al (S1.val us[S1.T.levels.length]! =y):=by
    show _=_
    rw [HD.o,he.o]
    exact hy
   clear hy
   by_cases im:y= -1
   ·subst im
    have zd:(((-1:Int))==(-1:Int))=true:=rfl
    have KB:=ae (Ds wr L1 S1 H1.o m j4.o x (by omega) (by omega) (some ⟨b,o,none⟩) c us Ph.o.1 (fun z hz=>by have :=P8.o z hz;omega) xS (Ph.o.2 (by omega)) pu.o)
    rw [Xu.o] at KB
    have HK:al (dC=(S1.wV x us,2)):=by
     have :=uR.o
     rw [Sv.bv,if_pos (by rw [HD.o];exact bM)] at this
     simp only at this
     rw [if_pos HY.o,HD.o,he.o] at this
     exact this.symm
    go_wp2_with fail
    refine KD.o.mono ?_
    rintro e w2 ⟨rfl,rfl⟩
    go_wp2_with fail
    refine KD.o.mono ?_
    rintro e w2 ⟨rfl,rfl⟩
    go_wp2_with fail
    refine KV.o.mono ?_
    rintro e w2 ⟨rfl,rfl⟩
    go_wp2_with fail
    refine KB.o.mono ?_
    rintro e w2 ⟨rfl,L2,h2,jp,bZ⟩
    have FF:=ae (mF.o _ 2 HK.o w2 L2 h2 (aQ.aX eG.o jp dy.o.size) (aQ.aR eG.o dy.o bZ))
    clear KB KV KD h2 jp bZ c0 cx
    go_wp2
    go_ret
    exact FF.o
   ·by_cases jJ:y=0
    ·subst jJ
     have O7:=ae (qk wr L1 S1 H1.o m j4.o (by rw [HD.o];omega))
     have HK:al (dC=(S1.deep.put x 0,0)):=by
      have :=uR.o
      rw [Sv.bv,if_pos (by rw [HD.o];exact bM)] at this
      simp only at this
      rw [if_neg (by rw [HY.o];decide),if_pos HY.o,HD.o,he.o] at this
      exact this.symm
     go_wp2_with fail
     refine KD.o.mono ?_
     rintro e w2 ⟨rfl,rfl⟩
     go_wp2_with fail
     refine KD.o.mono ?_
     rintro e w2 ⟨rfl,rfl⟩
     go_wp2_with fail
     refine KV.o.mono ?_
     rintro e w2 ⟨rfl,rfl⟩
     go_wp2_with fail
     refine O7.o.mono ?_
     rintro e w2 ⟨⟨x2,rfl⟩,L2,h2,jp,bZ⟩
     have H2:=ae h2
     have dx:=ae (aQ.aX eG.o jp dy.o.size)
     have cH:=ae (aQ.aR eG.o dy.o bZ)
     obtain ⟨c0,-⟩:=H2.o.cells
     rw [dx.o.1] at c0
     have KP:=ae (mc w2 L2 S1.deep H2.o m j4.o.deep x 0 (by show -(S1.vars:Int)≤x;omega) (by show x≤(S1.vars:Int);omega))
     clear O7 KV KD h2 jp bZ cx
     go_wp2_with fail
     refine KP.o.mono ?_
     rintro e w3 ⟨⟨x3,rfl⟩,L3,h3,xD,dD⟩
     have FF:=ae (mF.o _ 0 HK.o w3 L3 h3 (aQ.aX dx.o xD cH.o.size) (aQ.aR dx.o cH.o dD))
     clear KP h3 xD dD c0
     go_wp2
     go_ret
     exact FF.o
    ·have zd:(y==(-1:Int))=false:=by simp [im]
     have hd0:(y==(0:Int))=false:=by simp [jJ]
     have O7:=ae (qk wr L1 S1 H1.o m j4.o (by rw [HD.o];omega))
     have HK:al (Sv.bv us f S1.deep=dC):=by
      have :=uR.o
      rw [Sv.bv,if_pos (by rw [HD.o];exact bM)] at this
      simp only at this
      rw [if_neg (by rw [HY.o];exact im),if_neg (by rw [HY.o];exact jJ)] at this
      exact this
     go_wp2_with fail
     refine KD.o.mono ?_
     rintro e w2 ⟨rfl,rfl⟩
     go_wp2_with fail
     refine KD.o.mono ?_
     rintro e w2 ⟨rfl,rfl⟩
     go_wp2_with fail
     refine KV.o.mono ?_
     rintro e w2 ⟨rfl,rfl⟩
     go_wp2_with fail
     refine O7.o.mono ?_
     rintro e w2 ⟨⟨x2,rfl⟩,L2,h2,jp,bZ⟩
     have H2:=ae h2
     have dx:=ae (aQ.aX eG.o jp dy.o.size)
     have cH:=ae (aQ.aR eG.o dy.o bZ)
     have aaU:S1.deep.T.levels.length≤8796093022208:=by rw [Sv.dG,HD.o];omega
     have ah1:=ae aaU
     clear O7 KV KD h2 jp bZ cx aaU
     go_wp2
     go_roundg f
     case measure=>omega
     case rel=>exact ⟨S1.deep,L2,HK.o,by have :=HG.o;rw [Sv.dG];omega,ah1.o,HV1.o,pu.o,j4.o.deep,H2.o,dx.o,cH.o⟩
  ·have HK:al (dC=S1.choose):=by
    have :=uR.o
    rw [Sv.AG (by rw [HD.o];exact bM)] at this
    exact this.symm
   have KP:=ae (EA wr L1 S1 H1.o m j4.o)
   rw [Xu.o] at KP
   have La:=ae j4.o.pick
   obtain ⟨PK,hPK⟩:∃PK,S1.pick=PK:=⟨_,rfl⟩
   have Ob:S1.choose=if PK.2=0 then (PK.1.keep,1) else (PK.1.deep.put PK.2 0,0):=by
    unfold Sv.choose
    rw [hPK]
   rw [hPK] at KP La
   obtain ⟨S2,p⟩:=PK
   simp only at Ob KP La
   have HCH:=ae Ob
   clear Ob hPK
   go_wp2_with fail
   refine KD.o.mono ?_
   rintro e w2 ⟨rfl,rfl⟩
   go_wp2_with fail
   refine KP.o.mono ?_
   rintro e w2 ⟨rfl,L2,h2,jp,bZ⟩
   have H2:=ae h2
   have dx:=ae (aQ.aX eG.o jp dy.o.size)
   have cH:=ae (aQ.aR eG.o dy.o bZ)
   have Vu:S2.vars=S1.vars:=La.o.2.2.1
   have ZQ:S2.T.levels.length≤8796093022208:=by rw [La.o.2.1,HD.o];exact DX
   have hpr:=La.o.2.2.2.2.2
   obtain ⟨c0,-⟩:=H2.o.cells
   rw [dx.o.1] at c0
   clear KP KD h2 jp bZ
   by_cases Nv:p=0
   ·subst Nv
    have HK:al (dC=(S2.keep,1)):=by
     have :=HCH.o
     rw [if_pos rfl] at this
     exact HK.o.trans this
    have KK:=ae (ES w2 L2 S2 H2.o m La.o.1)
    rw [dx.o.1] at KK
    clear Vu ZQ hpr
    go_wp2_with fail
    refine KK.o.mono ?_
    rintro e w3 ⟨rfl,L3,h3,xD,dD⟩
    have FF:=ae (mF.o _ 1 HK.o w3 L3 h3 (aQ.aX dx.o xD cH.o.size) (aQ.aR dx.o cH.o dD))
    clear KK h3 xD dD c0
    go_wp2
    go_ret
    exact FF.o
   ·have hpb:(p==(0:Int))=false:=by simp [Nv]
    have HK:al (dC=(S2.deep.put p 0,0)):=by
     have :=HCH.o
     rw [if_neg Nv] at this
     exact HK.o.trans this
    have O7:=ae (qk w2 L2 S2 H2.o m La.o.1 (by omega))
    have HP1:al (-(S2.vars:Int)≤p∧p≤S2.vars):=by
     rw [Vu]
     exact hpr
    clear Vu ZQ hpr
    go_wp2_with fail
    refine O7.o.mono ?_
    rintro e w3 ⟨⟨x3,rfl⟩,L3,h3,xD,dD⟩
    have H3:=ae h3
    have iu:=ae (aQ.aX dx.o xD cH.o.size)
    have cZ:=ae (aQ.aR dx.o cH.o dD)
    obtain ⟨c0,-⟩:=H3.o.cells
    rw [iu.o.1] at c0
    have KPU:=ae (mc w3 L3 S2.deep H3.o m La.o.1.deep p 0 HP1.o.1 HP1.o.2)
    clear O7 h3 xD dD
    go_wp2_with fail
    refine KPU.o.mono ?_
    rintro e w4 ⟨⟨x4,rfl⟩,L4,h4,TY,eW⟩
    have FF:=ae (mF.o _ 0 HK.o w4 L4 h4 (aQ.aX iu.o TY cZ.o.size) (aQ.aR iu.o cZ.o eW))
    clear KPU h4 TY eW c0
    go_wp2
    go_ret
    exact FF.o
namespace Sv
def rest (S:Sv):Hp×Nat×List Bool×List Bool×List Int×Nat×Nat×Int×Nat×Bool×Bool×List Int×Nat:=
 (S.H,S.vars,S.phase,S.model,S.core,S.used,S.bump,S.many,S.bP,S.bad,S.has,S.T.levels,S.list.length)
theorem yG (S:Sv) (n:Nat) (l:List Int):(S.ep n l).rest=S.rest:=by simp [rest,ep]
theorem oU (S:Sv) (n:Nat) (l:List Nat):(S.cd n l).rest=S.rest:=rfl
theorem IS (S:Sv) (n k:Nat):(S.gP n k).rest=S.rest:=rfl
theorem MD (S:Sv) (l r:Int):(S.put l r).rest=S.rest:=by
 unfold rest
 rw [dF]
 rfl
theorem Eu (S:Sv) (n:Nat):(S.di n).1.rest=S.rest:=by
 unfold di oW
 split
 ·rw [IS,yG]
 ·rfl
theorem li (S:Sv) (n:Nat) (off:Int):(S.cG n off).rest=S.rest:=by
 unfold cG
 split
 ·rw [yG]
 ·rfl
theorem vd (S:Sv) (n:Nat) (off:Int):(S.cY n off).1.rest=S.rest:=by
 unfold cY
 split
 ·rfl
 ·unfold fI
  simp only
  split
  ·exact li S n off
  ·split
   ·rw [Eu,li]
   ·split
    ·exact li S n off
    ·rw [MD,li]
theorem nY (off:Int):∀(ws keep:List Nat) (S:Sv),(bS off ws keep S).1.rest=S.rest
 |[],keep,S=>by rw [bS,oU]
 |n::r,keep,S=>by
  rw [bS]
  try simp only
  split
  ·rw [nY off r,vd]
  ·rw [oU,vd]
theorem wu {S:Sv} {f:Nat} (h:S.head<S.T.lits.length):dd (f+1) S=
  if (bS (-(S.T.lits[S.head]!)) (S.fH (aW (-(S.T.lits[S.head]!)))) [] (S.cd (aW (-(S.T.lits[S.head]!))) [])).2.isSome=true
  then ((bS (-(S.T.lits[S.head]!)) (S.fH (aW (-(S.T.lits[S.head]!)))) [] (S.cd (aW (-(S.T.lits[S.head]!))) [])).1,(bS (-(S.T.lits[S.head]!)) (S.fH (aW (-(S.T.lits[S.head]!)))) [] (S.cd (aW (-(S.T.lits[S.head]!))) [])).2)
  else dd f { (bS (-(S.T.lits[S.head]!)) (S.fH (aW (-(S.T.lits[S.head]!)))) [] (S.cd (aW (-(S.T.lits[S.head]!))) [])).1 with head:=(bS (-(S.T.lits[S.head]!)) (S.fH (aW (-(S.T.lits[S.head]!)))) [] (S.cd (aW (-(S.T.lits[S.head]!))) [])).1.head+1 }:=by
 simp only [dd]
 rw [if_pos h]
 generalize bS (-(S.T.lits[S.head]!)) (S.fH (aW (-(S.T.lits[S.head]!)))) [] (S.cd (aW (-(S.T.lits[S.head]!))) [])=q
 obtain ⟨S1,o⟩:=q
 cases o<;>simp
theorem Ok.dd:∀(f:Nat) (S:Sv),S.Ok 0→(Sv.dd f S).1.Ok 0∧(Sv.dd f S).1.rest=S.rest∧∀n,(Sv.dd f S).2=some n→n<S.list.length
 |0,S,ok=>⟨ok,rfl,fun n h=>by cases h⟩
 |f+1,S,ok=>by
  by_cases h:S.head<S.T.lits.length
  ·rw [wu h]
   generalize ho: -(S.T.lits[S.head]!)=off
   have hb:=ok.oO h
   have hc:aW off<S.watch.length:=by
    rw [ok.wl]
    exact gH (by omega) (by omega)
   have o2:(S.cd (aW off) []).Ok (([]:List Nat).length+(S.fH (aW off)).length):=ok.cd hc (fun n hn=>by cases hn) (by simp)
   have hv:=o2.nP off (S.fH (aW off)) [] _ (fun n hn=>ok.wb _ n hn) (fun n hn=>by cases hn) (by show _<(S.watch.set _ _).length;rw [aw];exact hc)
   have hr:=nY off (S.fH (aW off)) [] (S.cd (aW off) [])
   have hl:=k9 off (S.fH (aW off)) [] (S.cd (aW off) [])
   rw [oU] at hr
   generalize bS off (S.fH (aW off)) [] (S.cd (aW off) [])=q at *
   split
   ·exact ⟨hv.1,hr,hv.2.2.2.2⟩
   ·have o:=hv.1
    have hh:q.1.head=S.head:=hv.2.2.1
    have jM:S.T.lits.length≤q.1.T.lits.length:=hl
    have ok9:({ q.1 with head:=q.1.head+1 }:Sv).Ok 0:=⟨o.vl,o.tr,o.hi,o.hl,o.ph,o.wl,o.ll,o.wb,o.wt,o.lr,o.ln,o.lb,by show q.1.head+1≤q.1.T.lits.length;omega,o.rs⟩
    have ih:=Ok.dd f _ ok9
    have hl3:q.1.list.length=S.list.length:=hv.2.2.2.1
    exact ⟨ih.1,ih.2.1.trans hr,fun n hn=>by have :=ih.2.2 n hn;show n<_;have e:({ q.1 with head:=q.1.head+1 }:Sv).list.length=S.list.length:=hl3;omega⟩
  ·rw [mU h]
   exact ⟨ok,rfl,fun n h=>by cases h⟩
theorem Ok.follow {S:Sv} (ok:S.Ok 0):S.follow.1.Ok 0∧S.follow.1.rest=S.rest∧∀n,S.follow.2=some n→n<S.list.length:=Ok.dd _ S ok
theorem wY (level:Int):∀(r:List Int) (S:Sv),(dM level r S).core=S.core∧(dM level r S).used=S.used∧(dM level r S).many=S.many∧(dM level r S).bP=S.bP∧(dM level r S).bad=S.bad∧(dM level r S).T=S.T∧(dM level r S).bump=S.bump
 |[],S=>⟨rfl,rfl,rfl,rfl,rfl,rfl,rfl⟩
 |l::r,S=>by
  rw [dM]
  split
  ·exact ⟨rfl,rfl,rfl,rfl,rfl,rfl,rfl⟩
  ·exact wY level r _
theorem jk (S:Sv) (level:Nat):(S.back level).core=S.core∧(S.back level).used=S.used∧(S.back level).many=S.many∧(S.back level).bP=S.bP∧(S.back level).bad=S.bad∧(S.back level).T.levels.length≤S.T.levels.length∧(S.back level).bump=S.bump:=by
 unfold back
 split
 ·exact ⟨rfl,rfl,rfl,rfl,rfl,au _,rfl⟩
 ·have h:=wY level S.T.lits.reverse S
  refine ⟨h.1,h.2.1,h.2.2.1,h.2.2.2.1,h.2.2.2.2.1,?_,h.2.2.2.2.2.2⟩
  try simp only
  rw [h.2.2.2.2.2.1]
  simp only [Tr.cV]
  try split
  all_goals first |exact au _ | (simp only [Tr.wO,aV];omega)
theorem pY:∀(f:Nat) (S:Sv),(cI f S).1.core=S.core∧(cI f S).1.used=S.used∧(cI f S).1.many=S.many∧(cI f S).1.bP=S.bP∧(cI f S).1.bad=S.bad
 |0,S=>⟨rfl,rfl,rfl,rfl,rfl⟩
 |f+1,S=>by
  rw [cI]
  split
  ·exact ⟨rfl,rfl,rfl,rfl,rfl⟩
  ·simp only
   split
   ·exact pY f _
   ·exact ⟨rfl,rfl,rfl,rfl,rfl⟩
theorem fZ (S:Sv):S.choose.1.core=S.core∧S.choose.1.used=S.used∧S.choose.1.many=S.many∧S.choose.1.bP=S.bP∧S.choose.1.bad=S.bad:=by
 have h:=pY (S.H.items.length+1) S
 unfold choose
 split
 ·exact h
 ·exact h
theorem rA (us:List Int):∀(f:Nat) (S:Sv),((bv us f S).2=0→(bv us f S).1.core=S.core)∧(bv us f S).1.used=S.used∧(bv us f S).1.many=S.many∧(bv us f S).1.bP=S.bP∧(bv us f S).1.bad=S.bad
 |0,S=>⟨fun _=>(fZ S).1,(fZ S).2⟩
 |f+1,S=>by
  rw [bv]
  split
  ·simp only
   split
   ·exact ⟨fun h=>by simp at h,rfl,rfl,rfl,rfl⟩
   ·split
    ·exact ⟨fun _=>rfl,rfl,rfl,rfl,rfl⟩
    ·exact rA us f _
  ·exact ⟨fun _=>(fZ S).1,(fZ S).2⟩
end Sv
theorem nU {T:Tr} {f k:Nat} {l:List Int} {cj:Int} (h:¬k<l.length):Sv.second T f k l cj=(l,cj):=by
 cases f with
 |zero=>rfl
 |succ f=>rw [Sv.second,if_neg h]
theorem IN {T:Tr} {f k:Nat} {l:List Int} {cj:Int} (h:k<l.length) (hv:cj<T.da (tv l[k]!)):Sv.second T (f+1) k l cj=Sv.second T f (k+1) (dg l 1 k) (T.da (tv l[k]!)):=by
 rw [Sv.second,if_pos h,if_pos hv]
theorem IP {T:Tr} {f k:Nat} {l:List Int} {cj:Int} (h:k<l.length) (hv:¬cj<T.da (tv l[k]!)):Sv.second T (f+1) k l cj=Sv.second T f (k+1) l cj:=by
 rw [Sv.second,if_pos h,if_neg hv]
theorem qL (w:World) (L:aQ) (S:Sv) (h:bf w L S) (m:Nat) (ok:S.Ok m) (A:Option Addr) (c:Nat) (l:List Int) (hi:Ints w A c l) (hA:∀k,k∈ap A→(L.cQ k).1≠L.id) (xV:∀x∈l,-(S.vars:Int)≤x∧x≤S.vars) (hlen:l.length≤17592186044416):
  Calls Tryz.prog 151 #[.pointer (some ⟨L.a,0,none⟩), .slice A l.length c] w fun e w'=>e= .returned (.int .i64 (Sv.second S.T l.length 1 l 0).2)∧Ints w' A c (Sv.second S.T l.length 1 l 0).1∧Fr (ap A) w w':=by
 obtain ⟨dC,fh⟩:∃dC,Sv.second S.T l.length 1 l 0=dC:=⟨_,rfl⟩
 rw [fh]
 have mF:al (∀(l1:List Int) (r:Int),(l1,r)=dC→∀W,Ints W A c l1→Fr (ap A) w W→(Ending.returned (.int .i64 r)= .returned (.int .i64 dC.2)∧Ints W A c dC.1∧Fr (ap A) w W)):=fun l1 r e W g1 g2=>by
  subst e
  exact ⟨rfl,g1,g2⟩
 have eP:=ae fh
 have nF:=ok.vl
 obtain ⟨c0,-⟩:=h.cells
 have uT:=ae c0
 have HI:=ae hi
 have rO:=ae xV
 have Qc:al (L.a∉ap A):=fun hm=>hA _ hm (by rw [h.t0])
 have HTR:al (∀W,Fr (ap A) w W→TrAt W L.tL S.T):=fun W hW=>h.tr.fr hW (fun k hk hm=>hA _ hm (by rw [h.t1 k hk]))
 clear fh h ok hi hA xV c0
 go_enter Tryz.func151,Tryz.ntmps151
 go_wp2_with fail
 go_loopg [5,6] l.length (fun g x5 x6 wr=>∃(k:Nat) (l1:List Int) (cj:Int),k+g=l.length+1∧1≤k∧x5= .int .i64 cj∧x6= .int .i64 k∧al (Sv.second S.T g k l1 cj=dC)∧al (l1.length=l.length)∧al (∀x∈l1,-(S.vars:Int)≤x∧x≤S.vars)∧al (Ints wr A c l1)∧al (Fr (ap A) w wr))
 case atStart=>exact ⟨1,l,0,by omega,by omega,rfl,rfl,eP.o,rfl,rO.o,HI.o,Fr.refl _ _⟩
 case round=>
  obtain ⟨k,l1,cj,hk,JO,rfl,rfl,HR,HL,HB,Pv,HF⟩:=hrel
  have HK:=ae hk
  have nI:k≤l.length+1:=by omega
  clear hk
  by_cases bM:k<l.length
  ·obtain ⟨f,rfl⟩:∃f,gk=f+1:=⟨gk-1,by have :=HK.o;omega⟩
   have NF:k<l1.length:=by rw [HL.o];exact bM
   have Gu:=ae NF
   obtain ⟨gb,Bi,sE⟩:=Pv.o.pos NF
   subst Bi
   have c0:=HF.o.bD Qc.o uT.o
   have cy:=Pv.o.cell NF
   obtain ⟨y,hy⟩:∃y,l1[k]! =y:=⟨_,rfl⟩
   have PR:=HB.o y (by rw [←hy];exact get_mem NF)
   rw [hy] at cy
   have HY:=ae hy
   obtain ⟨im,kS⟩:=PR
   obtain ⟨qx,Ni⟩:=vq im kS nF
   have e0:=Ext.cell c0
   have ey:=Ext.cell cy
   obtain ⟨lv,lI⟩:∃lv,S.T.da (tv y)=lv:=⟨_,rfl⟩
   have Pq:=ae lI
   have KV:=ae (fun u:Ext wr=>jt u.v L.tL S.T ((HTR.o wr HF.o).fr u.fr (by simp)) (tv y))
   simp only [lI] at KV
   clear hy lI NF sE
   by_cases PY:cj<lv
   ·have hd:decide (cj<lv)=true:=decide_eq_true PY
    have uj:al (Sv.second S.T f (k+1) (dg l1 1 k) lv=dC):=by
     have :=HR.o
     rw [IN Gu.o (by rw [HY.o,Pq.o];exact PY),HY.o,Pq.o] at this
     exact this
    clear PY
    go_wp2
    refine ax ?_
    repeat (go_big_quiet_step (exact bk (KV.o _)))
    refine gO ?_
    intro w2 bl
    clear e0 ey c0 cy qx Ni
    have uo:=ae (HF.o.aj (bl.o.mono (fun k hk=>by cases hk)))
    have mw:=ae (Pv.o.dX bl.o)
    have cy:=mw.o.cell Gu.o
    have c1:=mw.o.cell (i:=1) (by have :=Gu.o;omega)
    rw [HY.o] at cy
    obtain ⟨z,hz⟩:∃z,l1[1]! =z:=⟨_,rfl⟩
    rw [hz] at c1
    have HZ:=ae hz
    have f1:=mw.o.frozen 1
    have fk:=mw.o.frozen k
    have vQ:1<l.length:=by omega
    have D3:=(mw.o.eo 1 y).drew
    have cA:=D3.cell (i:=k) (by rw [aw];exact Gu.o)
    have eA:(l1.set 1 y)[k]! =y:=by
     rw [dT]
     split
     ·rfl
     ·exact HY.o
    rw [eA] at cA
    have fA:=D3.frozen k
    clear hz D3 eA
    go_upto_region 8 with fail
    go_region
    have sO:=ae (((mw.o.eo 1 l1[k]!).eo k l1[1]!).drew)
    rw [HY.o,HZ.o] at sO
    have Gn:al (Ints ((w2.setCell ⟨gb,1,none⟩ (.int .i64 y)).setCell ⟨gb,k,none⟩ (.int .i64 z)).drew (some ⟨gb,0,none⟩) c (dg l1 1 k)):=by
     have :=sO.o
     unfold dg
     rw [HY.o,HZ.o]
     exact this
    have cH:al (Fr (ap (some ⟨gb,0,none⟩)) w ((w2.setCell ⟨gb,1,none⟩ (.int .i64 y)).setCell ⟨gb,k,none⟩ (.int .i64 z)).drew):=((uo.o.setCell (.inl (by simp [ap])) _).setCell (.inl (by simp [ap])) _).drew
    clear cy c1 f1 fk cA fA
    go_wp2
    go_roundg f
    case measure=>omega
    case rel=>exact ⟨k+1,dg l1 1 k,lv,by have :=HK.o;omega,by omega,rfl,by go_num,uj.o,by rw [fv];exact HL.o,fun x hx=>HB.o x (qK (by have :=Gu.o;omega) Gu.o hx),Gn.o,cH.o⟩
   ·have hd:decide (cj<lv)=false:=decide_eq_false PY
    have uj:al (Sv.second S.T f (k+1) l1 cj=dC):=by
     have :=HR.o
     rw [IP Gu.o (by rw [HY.o,Pq.o];exact PY)] at this
     exact this
    clear PY
    go_wp2
    refine ax ?_
    repeat (go_big_quiet_step (exact bk (KV.o _)))
    refine gO ?_
    intro w2 bl
    clear e0 ey c0 cy qx Ni
    have uo:=ae (HF.o.aj (bl.o.mono (fun k hk=>by cases hk)))
    have mw:=ae (Pv.o.dX bl.o)
    go_wp2
    go_roundg f
    case measure=>omega
    case rel=>exact ⟨k+1,l1,cj,by have :=HK.o;omega,by omega,rfl,by go_num,uj.o,HL.o,HB.o,mw.o,uo.o⟩
  ·have HE:al ((l1,cj)=dC):=by
    have :=HR.o
    rw [nU (by rw [HL.o];exact bM)] at this
    exact this
   have FF:=ae (mF.o _ _ HE.o wr Pv.o HF.o)
   clear HR HB
   go_wp2
   go_ret
   exact FF.o
theorem bf.JV {w w':World} {L:aQ} {S:Sv} (h:bf w L S) {H':Hp} (ht:ct w' L.hL H') (hf:Fr L.hL.fp w w'):bf w' L { S with H:=H' }:=by
 have hF:∀k,k∈L.hL.fp→k<w.heap.size→L.cQ k=(L.id,2,0):=fun k hk _=>h.t2 k hk
 have o:=h.off (P:=(· =(2,0))) hf (fun k hk hl=>⟨_,rfl,hF k hk hl⟩)
 exact ⟨o.obj (by decide),o.tr (by decide),ht,h.io,h.AA,h.Ay,o.ux (by decide),o.rws (by decide),o.uv (by decide),o.xv (by decide),o.tO (by decide),fun n hn=>o.pr n hn (by simp),fun n hn=>o.rr n hn (by simp),
  h.t0,h.t1,h.t2,h.t3,h.t4,h.t5,h.t6,h.t7,h.t8,h.t9⟩
structure lB where
 gb:Nat
 bm:Nat
 A:Option Addr
 c:Nat
def lB.own (X:lB):List Nat:=X.gb::X.bm::ap X.A
structure gY (w:World) (L:aQ) (X:lB) (n:Nat) (G:Sv.Gr):Prop where
 sv:bf w L G.S
 obj:At w X.gb 171 #[.pointer (some ⟨L.a,0,none⟩), .map (some X.bm), .int .i64 G.fF, .slice X.A G.bn.length X.c]
 sn:qC w X.bm n G.seen
 ln:Ints w X.A X.c G.bn
 f1:(L.cQ X.gb).1≠L.id
 f2:(L.cQ X.bm).1≠L.id
 f3:∀k,k∈ap X.A→(L.cQ k).1≠L.id
 fs:∀k,w.heap.size≤k→(L.cQ k).1≠L.id
 d12:X.gb≠X.bm
 d3:∀k,k∈ap X.A→k≠X.gb∧k≠X.bm
theorem gY.gh {w:World} {L:aQ} {X:lB} {n:Nat} {G:Sv.Gr} (h:gY w L X n G):∀k,k∈X.own→(L.cQ k).1≠L.id:=by
 intro k hk
 simp only [lB.own,av] at hk
 rcases hk with rfl |rfl |hk
 ·exact h.f1
 ·exact h.f2
 ·exact h.f3 k hk
theorem gY.keep {w w':World} {L:aQ} {X:lB} {n:Nat} {G:Sv.Gr} (h:gY w L X n G) (hf:Fr [] w w'):gY w' L X n G:=
 ⟨h.sv.keep hf,h.obj.keep hf,h.sn.keep hf,h.ln.dX hf,h.f1,h.f2,h.f3,fun k hk=>h.fs k (aF hf.size hk),h.d12,h.d3⟩
theorem gY.YD {w w':World} {L:aQ} {X:lB} {n n':Nat} {G:Sv.Gr} {s:List Int} (h:gY w L X n G) (hm:qC w' X.bm n' s) (hf:Fr [X.bm] w w'):gY w' L X n' { G with seen:=s }:=
 ⟨h.sv.fr hf (fun k hk _=>by simp at hk;subst hk;exact h.f2),hf.at_ h.obj (by simpa using h.d12),hm,h.ln.fr hf (fun k hk hm=>by simp at hm;exact (h.d3 k hk).2 hm),h.f1,h.f2,h.f3,fun k hk=>h.fs k (aF hf.size hk),h.d12,h.d3⟩
theorem gY.aaO {w w':World} {L:aQ} {X:lB} {n:Nat} {G:Sv.Gr} {H':Hp} (h:gY w L X n G) (hp:ct w' L.hL H') (hf:Fr L.hL.fp w w'):gY w' L X n { G with S:={ G.S with H:=H' } }:=
 have hn:∀k,k∈X.own→k∉L.hL.fp:=fun k hk hm=>h.gh k hk (by rw [h.sv.t2 k hm])
 ⟨h.sv.JV hp hf,hf.at_ h.obj (hn _ (by simp [lB.own])),h.sn.fr hf (hn _ (by simp [lB.own])),h.ln.fr hf (fun k hk=>hn _ (by simp [lB.own,hk])),h.f1,h.f2,h.f3,fun k hk=>h.fs k (aF hf.size hk),h.d12,h.d3⟩
theorem gY.UX {w:World} {L:aQ} {X:lB} {n:Nat} {G:Sv.Gr} (h:gY w L X n G) (v:Int):gY (w.setCell ⟨X.gb,2,none⟩ (.int .i64 v)) L X n { G with fF:=v }:=by
 have hf:Fr [X.gb] w (w.setCell ⟨X.gb,2,none⟩ (.int .i64 v)):=(Fr.refl _ w).setCell (.inl (by simp)) _
 refine ⟨h.sv.fr hf (fun k hk _=>by simp at hk;subst hk;exact h.f1),?_,h.sn.fr hf (by simpa using h.d12.symm),h.ln.fr hf (fun k hk hm=>by simp at hm;exact (h.d3 k hk).1 hm),h.f1,h.f2,h.f3,fun k hk=>h.fs k (aF hf.size hk),h.d12,h.d3⟩
 have :=h.obj.eo 2 (.int .i64 v)
 simpa using this
theorem gY.U4 {w w1:World} {L:aQ} {X:lB} {n:Nat} {G:Sv.Gr} (h:gY w L X n G) {A':Option Addr} {c':Nat} {ls:List Int} (hi:Ints w1 A' c' ls) (hf:Fr (ap X.A) w w1) (hA:∀k,k∈ap A'→k∈ap X.A∨w.heap.size≤k):
  gY (w1.setCell ⟨X.gb,3,none⟩ (.slice A' ls.length c')) L ⟨X.gb,X.bm,A',c'⟩ n { G with bn:=ls }:=by
 have bZ:Fr (X.gb::ap X.A) w (w1.setCell ⟨X.gb,3,none⟩ (.slice A' ls.length c')):=(hf.mono (fun k hk=> .inl (by simp [hk]))).setCell (.inl (by simp)) _
 have hF:∀k,k∈X.gb::ap X.A→(L.cQ k).1≠L.id:=fun k hk=>h.gh k (by simp only [lB.own,av] at hk⊢;rcases hk with hk |hk<;>simp [hk])
 have h3:∀k,k∈ap A'→k≠X.gb∧k≠X.bm:=fun k hk=>by
  rcases hA k hk with h1 |h1
  ·exact h.d3 k h1
  ·have :=h.obj.lt
   have :=h.sn.lt
   omega
 refine ⟨h.sv.fr bZ (fun k hk _=>hF k hk),?_,h.sn.fr bZ (by
  simp only [av,not_or]
  exact ⟨h.d12.symm,fun hk=>(h.d3 _ hk).2 rfl⟩),?_,h.f1,h.f2,fun k hk=> ?_,fun k hk=>h.fs k (aF bZ.size hk),h.d12,h3⟩
 ·have :=(hf.at_ h.obj (fun hk=>(h.d3 _ hk).1 rfl)).eo 3 (.slice A' ls.length c')
  simpa using this
 ·exact hi.gh (p:=⟨X.gb,3,none⟩) (fun hk=>(h3 _ hk).1 rfl) _
 ·rcases hA k hk with h1 |h1
  ·exact h.f3 k h1
  ·exact h.fs k h1
namespace Sv
def raise (S:Sv) (v:Int):Sv:={ S with H:=lG S.H v S.bump }
theorem Ok.raise {S:Sv} {m:Nat} (ok:S.Ok m) (v:Int):(S.raise v).Ok m:=by
 have hh:HI (lG S.H v S.bump)∧(lG S.H v S.bump).at_.length=S.H.at_.length:=by
  unfold lG
  split
  ·rename_i hb
   obtain ⟨h1,h2,h3,h4⟩:=hb
   have :=ok.hi.raise h1 h2 h3 h4
   exact ⟨this.1,this.2.2.2.1⟩
  ·exact ⟨ok.hi,rfl⟩
 exact ⟨ok.vl,ok.tr,hh.1,hh.2.trans ok.hl,ok.ph,ok.wl,ok.ll,ok.wb,ok.wt,ok.lr,ok.ln,ok.lb,ok.hd,ok.rs⟩
theorem iK {G:Sv.Gr} {l:Int} (h:tv l∈G.seen∨G.S.T.da (tv l)≤0):meet G l=G:=by
 unfold meet
 simp only
 rw [if_pos h]
theorem fG {G:Sv.Gr} {l:Int} (h:¬(tv l∈G.seen∨G.S.T.da (tv l)≤0)) (h2:G.S.T.da (tv l)=G.S.T.levels.length):meet G l={ G with S:=G.S.raise (tv l),seen:=tv l::G.seen,fF:=G.fF+1 }:=by
 unfold meet raise
 simp only
 rw [if_neg h,if_pos h2]
theorem gR {G:Sv.Gr} {l:Int} (h:¬(tv l∈G.seen∨G.S.T.da (tv l)≤0)) (h2:¬G.S.T.da (tv l)=G.S.T.levels.length):meet G l={ G with S:=G.S.raise (tv l),seen:=tv l::G.seen,bn:=G.bn++[l] }:=by
 unfold meet raise
 simp only
 rw [if_neg h,if_neg h2]
theorem Ok.meet {G:Sv.Gr} {m:Nat} (ok:G.S.Ok m) (l:Int):(meet G l).S.Ok m:=by
 by_cases h:tv l∈G.seen∨G.S.T.da (tv l)≤0
 ·rw [iK h];exact ok
 ·by_cases h2:G.S.T.da (tv l)=G.S.T.levels.length
  ·rw [fG h h2];exact ok.raise _
  ·rw [gR h h2];exact ok.raise _
theorem yS (G:Sv.Gr) (l:Int):(meet G l).S.T=G.S.T∧(meet G l).S.vars=G.S.vars∧(meet G l).S.list=G.S.list∧(meet G l).S.used=G.S.used∧(meet G l).fF≤G.fF+1∧G.fF≤(meet G l).fF∧(meet G l).bn.length≤G.bn.length+1:=by
 by_cases h:tv l∈G.seen∨G.S.T.da (tv l)≤0
 ·rw [iK h];exact ⟨rfl,rfl,rfl,rfl,by omega,by omega,by omega⟩
 ·by_cases h2:G.S.T.da (tv l)=G.S.T.levels.length
  ·rw [fG h h2];exact ⟨rfl,rfl,rfl,rfl,by simp,by simp;omega,by simp⟩
  ·rw [gR h h2];exact ⟨rfl,rfl,rfl,rfl,by simp;omega,by simp,by simp⟩
end Sv
def MtP (G':Sv.Gr) (L:aQ) (X:lB) (n:Nat) (w:World) (e:Ending) (w':World):Prop:=
 e= .returned (.tuple #[])∧∃(X':lB) (n':Nat),gY w' L X' n' G'∧n'≤n+1∧X'.gb=X.gb∧X'.bm=X.bm∧(∀k,k∈ap X'.A→k∈ap X.A∨w.heap.size≤k)∧Fr (X.own++L.hL.fp) w w'
theorem EG (w:World) (L:aQ) (X:lB) (n:Nat) (G:Sv.Gr) (h:gY w L X n G) (m:Nat) (ok:G.S.Ok m) (l:Int) (h0: -(G.S.vars:Int)≤l) (h1:l≤G.S.vars) (hn:n<maxLen) (hle:G.bn.length<17592186044416) (ho: -4611686018427387904≤G.fF) (Z7:G.fF<4611686018427387904):
  Calls Tryz.prog 149 #[.pointer (some ⟨X.gb,0,none⟩), .int .i64 l] w (MtP (Sv.meet G l) L X n w):=by
 have nF:=ok.vl
 obtain ⟨dC,fh⟩:∃dC,Sv.meet G l=dC:=⟨_,rfl⟩
 rw [fh]
 have eP:=ae fh
 obtain ⟨v,hv⟩:∃v,tv l=v:=⟨_,rfl⟩
 obtain ⟨qx,Ni⟩:=vq h0 h1 nF
 have vI:=Mq h0 h1 nF
 rw [hv] at qx vI
 have HV:=ae hv
 have HG:=ae h
 have kM:=ae ok
 have g0:=h.obj.cell 0
 have g1:=h.obj.cell 1
 simp only [cN,cw,cg] at g0 g1
 obtain ⟨c0,c1,-,-,-,-,-,-,-,-,c10,-⟩:=h.sv.cells
 have uT:=ae c0
 have pu:=ae c1
 have aia:=ae c10
 have Eb:=ae g0
 have HG1:=ae g1
 clear fh hv
 by_cases hs:v∈G.seen
 ·have jL:=h.sn.look (v:=v) ⟨by omega,by omega⟩
  have rh:decide (v∈G.seen)=true:=decide_eq_true hs
  rw [rh] at jL
  have HR:al (dC=G):=by rw [←eP.o];exact Sv.iK (.inl (by rw [HV.o];exact hs))
  have hr:=HR.o.symm
  subst hr
  have FF:al (MtP G L X n w (.returned (.tuple #[])) w):=⟨rfl,X,n,HG.o,by omega,rfl,rfl,fun k hk=> .inl hk,Fr.refl _ _⟩
  clear hs rh h ok
  go_enter Tryz.func149,Tryz.ntmps149
  go_wp2_with fail
  refine bodyPost_ret (results_none rfl _ _ _) rfl ?_
  exact FF.o
 ·have jL:=h.sn.look (v:=v) ⟨by omega,by omega⟩
  have rh:decide (v∈G.seen)=false:=decide_eq_false hs
  rw [rh] at jL
  have KV:=ae (jt w L.tL G.S.T h.sv.tr v)
  obtain ⟨lv,lI⟩:∃lv,G.S.T.da v=lv:=⟨_,rfl⟩
  rw [lI] at KV
  have Pq:=ae lI
  have HS:=ae hs
  clear rh lI hs
  by_cases hz:lv≤0
  ·have hd:decide (lv≤0)=true:=decide_eq_true hz
   have HR:al (dC=G):=by rw [←eP.o];exact Sv.iK (.inr (by rw [HV.o,Pq.o];exact hz))
   have hr:=HR.o.symm
   subst hr
   have FF:al (MtP G L X n w (.returned (.tuple #[])) w):=⟨rfl,X,n,HG.o,by omega,rfl,rfl,fun k hk=> .inl hk,Fr.refl _ _⟩
   clear hz h ok
   go_enter Tryz.func149,Tryz.ntmps149
   go_wp2_with fail
   refine KV.o.mono ?_
   clear KV
   rintro e w1 ⟨rfl,rfl⟩
   go_wp2_with fail
   refine bodyPost_ret (results_none rfl _ _ _) rfl ?_
   exact FF.o
  ·have hd:decide (lv≤0)=false:=decide_eq_false hz
   have Qc:al (¬(tv l∈G.seen∨G.S.T.da (tv l)≤0)):=by
    rw [HV.o]
    show ¬_
    rintro (h5 |h5)
    ·exact HS.o h5
    ·rw [Pq.o] at h5;exact hz h5
   obtain ⟨w1,Hm,vO,cU⟩:=h.sn.store (v:=v) hn ⟨by omega,by omega⟩
   have XE:=ae (h.YD vO cU)
   have dy:=ae cU
   have HGB:al (X.gb∉[X.bm]):=by show ¬_;simpa using h.d12
   have yq:al (L.a∉[X.bm]):=by
    show ¬_
    simp only [ah]
    intro e
    exact h.f2 (by rw [←e,h.sv.t0])
   have Tc:=ae (cU.bD HGB.o Eb.o)
   have yr:=ae (cU.bD yq.o pu.o)
   have Mi:=ae (cU.bD yq.o uT.o)
   have Xy:=ae (cU.bD yq.o aia.o)
   have KR:=ae (fun W (hW:Fr [] w1 W)=>CN W L.hL G.S.H (XE.o.sv.hp.fr hW (by simp)) kM.o.hi v (G.S.bump:Int))
   clear hz h ok vO cU
   go_enter Tryz.func149,Tryz.ntmps149
   go_wp2_with fail
   refine KV.o.mono ?_
   clear KV
   rintro e w2 ⟨rfl,rfl⟩
   clear jL
   go_upto_region 3 with fail
   clear Hm g0 g1 c0 c1 c10 qx Ni
   refine wp_region_noPanic ?_
   refine bp (fun w':World=>Fr [] w1 w') 15 (by kernel_rfl) ((Fr.refl [] w1).drew) (fun db=> ?_)
   refine pf 15 [(0,[]),(1,[]),(2,[]),(3,[3,4,5,6,15]),(4,[]),(5,[]),(6,[6,15]),(7,[]),(8,[]),(9,[]),(10,[]),(11,[11,12,13,14,15]),(12,[]),(13,[]),(14,[14,15])] db (fun w cm=>And.intro (cm.aT Tc.o) (And.intro (cm.aT yr.o) (cm.aT Xy.o))) ?_;intro db
   refine R2 15 db fun K hK aH=> ?_
   (go_simp;refine (KR.o _ aH).mono ?_;rintro e w5 ⟨rfl,hp5,eu⟩;dsimp only)
   refine hK.out _ _ (.inl rfl) (fun mj=> ?_)
   clear hK K
   try simp only [Act.put,q5,q6,q7]
   refine fo ?_
   have Td:=ae ((XE.o.keep aH).aaO hp5 eu)
   have cZ:al (Fr (X.own++L.hL.fp) w w5):=((dy.o.mono (fun k hk=> .inl (by simp at hk;simp [lB.own,hk]))).aj (aH.mono (fun k hk=>by cases hk))).aj (eu.mono (fun k hk=> .inl (by simp [hk])))
   clear hp5 eu KR
   have g0:=Td.o.obj.cell 0
   simp only [cN,cg] at g0
   obtain ⟨c0,-⟩:=Td.o.sv.cells
   have e0:=Ext.cell c0
   have eg:=Ext.cell g0
   have KV:=ae (fun u:Ext w5=>jt u.v L.tL G.S.T (Td.o.sv.tr.fr u.fr (by simp)) v)
   have KD:=ae (fun u:Ext w5=>lf u.v L.tL G.S.T (Td.o.sv.tr.fr u.fr (by simp)))
   simp only [Pq.o] at KV
   obtain ⟨d,hde⟩:∃d,G.S.T.levels.length=d:=⟨_,rfl⟩
   simp only [hde] at KD
   have PJ:=ae hde
   clear hde
   by_cases heq:lv=(d:Int)
   ·have hdd:(lv==(d:Int))=true:=by simp [heq]
    have HR:al (dC={ G with S:=G.S.raise v,seen:=v::G.seen,fF:=G.fF+1 }):=by
     rw [←eP.o,Sv.fG Qc.o (by rw [HV.o,Pq.o,PJ.o];exact heq),HV.o]
     rfl
    clear heq
    go_wp2
    refine ax ?_
    repeat (go_big_quiet_step (first |exact bk (KV.o _) |exact bk (KD.o _)))
    refine gO ?_
    intro w6 DJ
    clear e0 eg g0 c0
    have Br:=ae (Td.o.keep DJ.o)
    have fM:=ae (cZ.o.aj (DJ.o.mono (fun k hk=>by cases hk)))
    have g2:=Br.o.obj.cell 2
    have fz:=Br.o.obj.frozen 2
    simp only [cN,cw,cg] at g2
    have dO:IntKind.i64.wrap (G.fF+1)=G.fF+1:=IntWalk.i64_in _ (by omega)
    have FF:al (MtP dC L X n w (.returned (.tuple #[])) (w6.setCell ⟨X.gb,2,none⟩ (.int .i64 (G.fF+1)))):=
     ⟨rfl,X,n+1,by rw [HR.o];exact Br.o.UX (G.fF+1),au _,rfl,rfl,fun k hk=> .inl hk,fM.o.setCell (.inl (by simp [lB.own])) _⟩
    go_wp2_with fail
    refine bodyPost_ret (results_none rfl _ _ _) rfl ?_
    exact FF.o
   ·have hdd:(lv==(d:Int))=false:=by simp [heq]
    have HR:al (dC={ G with S:=G.S.raise v,seen:=v::G.seen,bn:=G.bn++[l] }):=by
     rw [←eP.o,Sv.gR Qc.o (by rw [HV.o,Pq.o,PJ.o];exact heq),HV.o]
     rfl
    clear heq
    go_wp2
    refine ax ?_
    repeat (go_big_quiet_step (first |exact bk (KV.o _) |exact bk (KD.o _)))
    refine gO ?_
    intro w6 DJ
    clear e0 eg g0 c0
    have Br:=ae (Td.o.keep DJ.o)
    have fM:=ae (cZ.o.aj (DJ.o.mono (fun k hk=>by cases hk)))
    have g3:=Br.o.obj.cell 3
    simp only [cN,cw,cg] at g3
    have qs:=ae g3
    have XD:al (Fr [] w6 (w6.alloc (.cells #[.int .i64 l] 3))):=aN _ _
    have PN:al ((w6.alloc (.cells #[.int .i64 l] 3)).cell? ⟨w6.heap.size,0,none⟩=some (.int .i64 l)):=(At.new w6 _ _).cell 0
    have Pv:=ae (Br.o.ln.dX XD.o)
    have zo:al (∀w7,Fr (ap X.A) (w6.alloc (.cells #[.int .i64 l] 3)) w7→w7.cell? ⟨X.gb,3,none⟩=some (.slice X.A G.bn.length X.c)∧w7.frozen? ⟨X.gb,3,none⟩=false):=fun w7 gG=>by
     have y9:X.gb∉ap X.A:=fun hk=>(Br.o.d3 _ hk).1 rfl
     have X8:=XD.o.aT qs.o
     have f3':=(Br.o.keep XD.o).obj.frozen 3
     exact ⟨gG.bD y9 X8,(World.frozen?_of_block (gG.block X.gb (bE X8) y9)).trans f3'⟩
    have Uy:al (G.bn.length<17592186044416):=hle
    go_wp2_with (at_builtin;(refine cT _ rfl _ _ rfl X.A X.c G.bn _ rfl rfl Pv.o ⟨w6.heap.size,0,none⟩ 1 l rfl PN.o Uy.o ?_;intro g7 abo w7 xC gG PZ pE;obtain ⟨s7,f7⟩:=zo.o w7 gG))
    have V7:Fr (ap X.A) w6 w7:=(XD.o.mono (fun k hk=>by cases hk)).aj gG
    have hA7:∀k,k∈ap (some (⟨g7,0,none⟩:Addr))→k∈ap X.A∨w6.heap.size≤k:=fun k hk=>by
     simp [ap] at hk
     subst hk
     rcases PZ with h5 |h5
     ·exact .inl h5
     ·right
      rw [h5]
      simp
    have hB7:=Br.o.U4 xC V7 hA7
    rw [ai,bF] at hB7
    have hz6:w.heap.size≤w6.heap.size:=fM.o.size
    have FF:=ae (show MtP dC L X n w (.returned (.tuple #[])) (w7.setCell ⟨X.gb,3,none⟩ (.slice (some ⟨g7,0,none⟩) (G.bn.length+1) abo)) from
     ⟨rfl,⟨X.gb,X.bm,some ⟨g7,0,none⟩,abo⟩,n+1,by rw [HR.o];exact hB7,au _,rfl,rfl,fun k hk=>(hA7 k hk).imp id (fun h5=>aF hz6 h5),(fM.o.aj (V7.mono (fun k hk=> .inl (by simp [lB.own,hk])))).setCell (.inl (by simp [lB.own])) _⟩)
    clear hB7 xC gG PZ pE V7 hA7 hz6
    go_wp2_with fail
    refine bodyPost_ret (results_none rfl _ _ _) rfl ?_
    exact FF.o
theorem bf.act {w:World} {L:aQ} {S:Sv} (h:bf w L S) {n:Nat} (hn:n<L.cs.length) {gc:Nat} (i9:L.cA=some ⟨gc,0,none⟩) (x:Int):
  w.frozen? ⟨gc,n*3+2,none⟩=false∧bf (w.setCell ⟨gc,n*3+2,none⟩ (.int .i64 x)) { L with cs:=L.cs.set n { L.cs[n]! with act:=x } } { S with list:=S.list.set n { S.rc n with act:=x } }∧
   Fr [gc] w (w.setCell ⟨gc,n*3+2,none⟩ (.int .i64 x))∧(L.cQ gc).1=L.id:=by
 have r:=h.ux
 unfold rM at r
 rw [i9] at r
 have kG:L.cQ gc=(L.id,3,0):=h.t3 gc (by rw [i9];simp [ap])
 have hf:Fr [gc] w (w.setCell ⟨gc,n*3+2,none⟩ (.int .i64 x)):=(Fr.refl _ w).setCell (.inl (by simp)) _
 have o:=h.off (P:=(· =(3,0))) hf (fun k hk hl=>⟨_,rfl,by simp at hk;subst hk;exact kG⟩)
 have mg:=(World.ownsRow.stored r (n*3+2) (.int .i64 x)).1
 have ed:=h.pD hn
 have po:∀j:Nat,(L.cs.set n { L.cs[n]! with act:=x })[j]! =if n=j∧n<L.cs.length then { L.cs[n]! with act:=x } else L.cs[j]! :=fun j=>dT _ _ _ _
 have hA:∀j:Nat,((L.cs.set n { L.cs[n]! with act:=x })[j]!).A=(L.cs[j]!).A∧((L.cs.set n { L.cs[n]! with act:=x })[j]!).c=(L.cs[j]!).c∧((L.cs.set n { L.cs[n]! with act:=x })[j]!).lits=(L.cs[j]!).lits:=fun j=>by
  rw [po]
  split
  ·rename_i e
   rw [e.1]
   exact ⟨rfl,rfl,rfl⟩
  ·exact ⟨rfl,rfl,rfl⟩
 refine ⟨World.ownsRow.frozenAt r _,⟨?_,o.tr (by decide),o.hp (by decide),h.io,?_,h.Ay,?_,o.rws (by decide),o.uv (by decide),o.xv (by decide),o.tO (by decide),fun j hj=> ?_,fun c hc=>o.rr c hc (by simp),
  h.t0,h.t1,h.t2,h.t3,h.t4,h.t5,h.t6,h.t7,fun j hj k hk=> ?_,h.t9⟩,hf,by rw [kG]⟩
 ·have :=o.obj (by decide)
  simp only [oQ,aw] at this⊢
  exact this
 ·simp only
  rw [←h.AA,List.map_set]
  congr 1
  rw [ed]
  rfl
 ·unfold rM
  obtain ⟨g0,g1,g2⟩:=mp L.cs n hn
  have e:(eS L.cs).set (n*3+2) (.int .i64 x)=eS (L.cs.set n { L.cs[n]! with act:=x }):=by
   rw [←o5 L.cs n _ hn]
   simp only
   rw [kz g0,kz g1]
  simp only [aw]
  rw [←e,i9]
  exact mg
 ·simp only [aw] at hj
  obtain ⟨e1,e2,e3⟩:=hA j
  simp only
  rw [e1,e2,e3]
  exact o.pr j hj (by simp)
 ·simp only [aw] at hj
  simp only at hk
  rw [(hA j).1] at hk
  exact h.t8 j hj k hk
theorem gY.act {w:World} {L:aQ} {X:lB} {nm:Nat} {G:Sv.Gr} (h:gY w L X nm G) {n:Nat} (hn:n<L.cs.length) {gc:Nat} (i9:L.cA=some ⟨gc,0,none⟩) (x:Int):
  gY (w.setCell ⟨gc,n*3+2,none⟩ (.int .i64 x)).drew { L with cs:=L.cs.set n { L.cs[n]! with act:=x } } X nm { G with S:={ G.S with list:=G.S.list.set n { G.S.rc n with act:=x } } }:=by
 obtain ⟨h1,h2,h3,h4⟩:=h.sv.act hn i9 x
 have hn:∀k,k∈X.own→k∉[gc]:=fun k hk hm=>h.gh k hk (by simp at hm;rw [hm];exact h4)
 have h5:=h2.keep (Fr.refl [] _).drew
 have h6:=h3.drew
 exact ⟨h5,h6.at_ h.obj (hn _ (by simp [lB.own])),h.sn.fr h6 (hn _ (by simp [lB.own])),h.ln.fr h6 (fun k hk=>hn _ (by simp [lB.own,hk])),h.f1,h.f2,h.f3,fun k hk=>h.fs k (aF h6.size hk),h.d12,h.d3⟩
theorem gY.new {w:World} {L:aQ} {S:Sv} (h:bf w L S):
  gY (((w.alloc (.map #[] 0)).alloc (.cells #[.int .i64 0] 3)).alloc (.cells #[.pointer (some ⟨L.a,0,none⟩), .map (some w.heap.size), .int .i64 0, .slice (some ⟨w.heap.size+1,0,none⟩) 1 1] 171)) (L.shut w)
   ⟨w.heap.size+1+1,w.heap.size,some ⟨w.heap.size+1,0,none⟩,1⟩ 0 ⟨S,[],0,[0]⟩:=by
 have cU:Fr [] w (w.alloc (.map #[] 0)):=aN _ _
 have bZ:Fr [] (w.alloc (.map #[] 0)) ((w.alloc (.map #[] 0)).alloc (.cells #[.int .i64 0] 3)):=aN _ _
 have dD:Fr [] ((w.alloc (.map #[] 0)).alloc (.cells #[.int .i64 0] 3)) (((w.alloc (.map #[] 0)).alloc (.cells #[.int .i64 0] 3)).alloc (.cells #[.pointer (some ⟨L.a,0,none⟩), .map (some w.heap.size), .int .i64 0, .slice (some ⟨w.heap.size+1,0,none⟩) 1 1] 171)):=aN _ _
 have jf:∀k,w.heap.size≤k→((L.shut w).cQ k).1≠(L.shut w).id:=fun k hk=>aQ.ju hk
 refine ⟨h.shut.keep ((cU.aj bZ).aj dD),?_,(qC.new w).keep (bZ.aj dD),?_,jf _ (by simp only;omega),jf _ (au _),fun k hk=>jf k (by simp [ap] at hk;omega),fun k hk=>jf k (aF ((cU.aj bZ).aj dD).size hk),by simp only;omega,fun k hk=>by simp [ap] at hk;subst hk;simp⟩
 ·have :=At.new ((w.alloc (.map #[] 0)).alloc (.cells #[.int .i64 0] 3)) 171 #[.pointer (some ⟨L.a,0,none⟩), .map (some w.heap.size), .int .i64 0, .slice (some ⟨w.heap.size+1,0,none⟩) 1 1]
  rwa [show ((w.alloc (.map #[] 0)).alloc (.cells #[.int .i64 0] 3)).heap.size=w.heap.size+1+1 from by simp] at this
 ·have :Ints ((w.alloc (.map #[] 0)).alloc (.cells #[.int .i64 0] 3)) (some ⟨(w.alloc (.map #[] 0)).heap.size,0,none⟩) 1 [0]:=World.ownsRow_lit (w.alloc (.map #[] 0)) #[.int .i64 0] 1 (bH _) (by simp [maxLen]) (by simp)
  rw [show (w.alloc (.map #[] 0)).heap.size=w.heap.size+1 from by simp] at this
  exact this.dX dD
theorem gY.ep {w:World} {L:aQ} {X:lB} {n:Nat} {G:Sv.Gr} (h:gY w L X n G) {ga:Nat} (hA:X.A=some ⟨ga,0,none⟩) (v:Int):gY (w.setCell ⟨ga,0,none⟩ (.int .i64 v)) L X n { G with bn:=G.bn.set 0 v }:=by
 have o3:ga∈ap X.A:=by rw [hA];simp [ap]
 have hf:Fr [ga] w (w.setCell ⟨ga,0,none⟩ (.int .i64 v)):=(Fr.refl _ w).setCell (.inl (by simp)) _
 have hd:=h.d3 ga o3
 have hl:=h.ln
 rw [hA] at hl
 refine ⟨h.sv.fr hf (fun k hk _=>by simp at hk;subst hk;exact h.f3 _ o3),?_,h.sn.fr hf (by simpa using hd.2.symm),?_,h.f1,h.f2,h.f3,fun k hk=>h.fs k (aF hf.size hk),h.d12,h.d3⟩
 ·have :=hf.at_ h.obj (by simpa using hd.1.symm)
  simpa using this
 ·rw [hA]
  exact hl.eo 0 v
theorem gY.UV {w wr w':World} {L L1:aQ} {X:lB} {n:Nat} {G:Sv.Gr} (h:gY wr L1 X n G) (he:L.ext L1 w) (hF:Fr (L.own w) w wr) (hX:∀k,k∈X.own→w.heap.size≤k) (hf:Fr (X.own++L1.hL.fp) wr w'):Fr (L.own w) w w':=
 hF.trans hf fun k hk=>by
  rcases bK k w.heap.size with hl |hl
  ·left
   rw [aQ.bQ]
   refine ⟨hl,?_⟩
   rcases ag.1 hk with h1 |h1
   ·have :=hX k h1
    omega
   ·exact he.2.2 k hl (by rw [h.sv.t2 k h1];exact he.2.1)
  ·exact .inr hl
theorem fP (T:Tr):∀(f k:Nat) (l:List Int) (cj:Int),(Sv.second T f k l cj).1.length=l.length
 |0,k,l,cj=>rfl
 |f+1,k,l,cj=>by
  rw [Sv.second]
  split
  ·split
   ·rw [fP T f,fv]
   ·rw [fP T f]
  ·rfl
namespace Sv
def dH (G:Gr) (n skip:Int):Gr:=if 0≤n then meets skip (G.S.rc n.toNat).lits { G with S:=G.S.gf n.toNat } else G
def dR (f:Nat) (G1:Gr) (rest:List Int):Option (Gr×Int):=
 match rest.dropWhile (fun x=>decide (tv x∉G1.seen)) with
 |[]=>none
 |x::r=>if G1.fF-1=0 then some ({ G1 with fF:=G1.fF-1 },x) else fg f { G1 with fF:=G1.fF-1 } (G1.S.T.fe (tv x)-1) x r
theorem kp (f:Nat) (G:Gr) (n skip:Int) (rest:List Int):fg (f+1) G n skip rest=dR f (dH G n skip) rest:=by
 rw [fg]
 show _=dR f (dH G n skip) rest
 unfold dR dH
 simp only
 cases List.dropWhile _ rest<;>rfl
theorem jx (G:Gr) (n skip:Int) (rest:List Int):fg 0 G n skip rest=none:=rfl
theorem vy (f:Nat) (G:Gr):dR f G []=none:=rfl
theorem s8 {f:Nat} {G:Gr} {x:Int} {r:List Int} (h:tv x∉G.seen):dR f G (x::r)=dR f G r:=by
 unfold dR
 rw [List.dropWhile_cons,if_pos (by simpa using h)]
theorem vz {f:Nat} {G:Gr} {x:Int} {r:List Int} (h:tv x∈G.seen) (ho:G.fF-1=0):dR f G (x::r)=some ({ G with fF:=G.fF-1 },x):=by
 unfold dR
 rw [List.dropWhile_cons,if_neg (by simpa using h)]
 simp only
 rw [if_pos ho]
theorem yU {f:Nat} {G:Gr} {x:Int} {r:List Int} (h:tv x∈G.seen) (ho:¬G.fF-1=0):dR f G (x::r)=fg f { G with fF:=G.fF-1 } (G.S.T.fe (tv x)-1) x r:=by
 unfold dR
 rw [List.dropWhile_cons,if_neg (by simpa using h)]
 simp only
 rw [if_neg ho]
structure m9 (S:Sv) (m:Nat) (G:Gr):Prop where
 T:G.S.T=S.T
 vars:G.S.vars=S.vars
 used:G.S.used=S.used
 len:G.S.list.length=S.list.length
 ok:G.S.Ok m
 lr:∀x∈G.bn,-(S.vars:Int)≤x∧x≤S.vars
 l0:0<G.bn.length
theorem m9.meet {S:Sv} {m:Nat} {G:Gr} (h:m9 S m G) {l:Int} (hl: -(S.vars:Int)≤l∧l≤S.vars):m9 S m (meet G l):=by
 have hs:=yS G l
 refine ⟨hs.1.trans h.T,hs.2.1.trans h.vars,hs.2.2.2.1.trans h.used,by rw [hs.2.2.1];exact h.len,h.ok.meet l,?_,?_⟩
 ·by_cases h1:tv l∈G.seen∨G.S.T.da (tv l)≤0
  ·rw [iK h1];exact h.lr
  ·by_cases h2:G.S.T.da (tv l)=G.S.T.levels.length
   ·rw [fG h1 h2];exact h.lr
   ·rw [gR h1 h2]
    intro x hx
    rcases ag.1 hx with hx |hx
    ·exact h.lr x hx
    ·simp at hx;rw [hx];exact hl
 ·by_cases h1:tv l∈G.seen∨G.S.T.da (tv l)≤0
  ·rw [iK h1];exact h.l0
  ·by_cases h2:G.S.T.da (tv l)=G.S.T.levels.length
   ·rw [fG h1 h2];exact h.l0
   ·rw [gR h1 h2];simp
theorem qQ (S:Sv) (n j:Nat):((S.gf n).rc j).lits=(S.rc j).lits∧(S.gf n).list.length=S.list.length:=by
 have :(S.gf n).rc j=if n=j∧n<S.list.length then { S.rc n with act:=S.used } else S.rc j:=dT _ _ _ _
 rw [this]
 constructor
 ·split
  ·rename_i e;rw [e.1]
  ·rfl
 ·simp [gf]
theorem Ok.gf {S:Sv} {m:Nat} (ok:S.Ok m) (n:Nat):(S.gf n).Ok m:=by
 have e:=fun j=>(qQ S n j).1
 have el:=(qQ S n n).2
 exact ⟨ok.vl,ok.tr,ok.hi,ok.hl,ok.ph,ok.wl,by rw [el];exact ok.ll,fun c k hk=>by rw [el];exact ok.wb c k hk,by rw [el];exact ok.wt,fun j x hx=>by rw [e] at hx;exact ok.lr j x hx,fun j=>by rw [e];exact ok.ln j,fun j=>by rw [e];exact ok.lb j,ok.hd,fun v=>by rw [el];exact ok.rs v⟩
theorem m9.gf {S:Sv} {m:Nat} {G:Gr} (h:m9 S m G) (n:Nat):m9 S m { G with S:=G.S.gf n }:=
 ⟨h.T,h.vars,h.used,(qQ G.S n n).2.trans h.len,h.ok.gf n,h.lr,h.l0⟩
theorem m9.fF {S:Sv} {m:Nat} {G:Gr} (h:m9 S m G) (v:Int):m9 S m { G with fF:=v }:=⟨h.T,h.vars,h.used,h.len,h.ok,h.lr,h.l0⟩
end Sv
end Go.Proofs.YtdgplmgfkliijaaGreat
