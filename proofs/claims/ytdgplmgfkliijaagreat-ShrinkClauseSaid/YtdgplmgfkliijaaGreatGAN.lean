/- Parts of a proof. -/
import Derived.Test.YtdgplmgfkliijaaGreatGAM
import Derived.Laws.AppendOwnNone
import Derived.Lib.AppendZeros
set_option linter.unusedVariables false
set_option linter.unusedSimpArgs false
set_option maxHeartbeats 8000000
namespace Go.Proofs.YtdgplmgfkliijaaGreat
open Go.RowKit
theorem MM {w:World} {e:TypeId} {A:Option Addr} {n c:Nat} {xs:List Value} (h:w.ownsRow 0 e 1 (.slice A n c) n xs):w.ownsRow 0 e 1 (.slice A 0 c) 0 []:=by
 refine ⟨by simp,?_⟩
 rcases h.2 with ⟨hv,rfl⟩ |⟨g,cap,cur,hv,hb,hg,hn,hm,hs,ht⟩
 ·simp only [Value.slice.injEq,true_and] at hv
  obtain ⟨rfl,rfl⟩:=hv
  exact .inl ⟨rfl,rfl⟩
 ·simp only [Value.slice.injEq,true_and] at hv
  obtain ⟨rfl,rfl⟩:=hv
  exact .inr ⟨g,c,cur,rfl,hb,hg,bH _,hm,hs,by simp⟩
theorem QG {w:World} {e:TypeId} {A:Option Addr} {n c:Nat} {xs:List Value} (h:w.ownsRow 0 e 1 (.slice A n c) n xs):n≤c:=by
 rcases h.2 with ⟨hv,rfl⟩ |⟨g,cap,cur,hv,hb,hg,hn,hm,hs,ht⟩
 ·exact bH _
 ·simp only [Value.slice.injEq,true_and] at hv
  rw [hv.2]
  exact hn
theorem CZ (w:World) (n:Nat) (hn:n≤4194304):
  Calls Tryz.prog 90 #[.slice none 0 0, .int .i64 n] w fun e w'=>∃A c,e= .returned (.slice A 0 c)∧w'.ownsRow 0 22 1 (.slice A 0 c) 0 []∧(∀k,k∈ap A→w.heap.size≤k)∧Fr [] w w':=by
 have d1:decide ((n:Int)<0)=false:=decide_eq_false (by omega)
 have Lz:IntKind.i64.wrap (0-0)=0:=by decide
 have dO:IntKind.i64.wrap ((n:Int)-0)=n:=IntWalk.i64_in _ (by omega)
 have mD:IntKind.i64.wrap (n:Int)=n:=IntWalk.i64_in _ (by omega)
 by_cases h0:n=0
 ·subst h0
  go_enter Tryz.func90,Tryz.ntmps90
  go_wp2
  go_ret
  exact ⟨none,0,rfl,World.ownsRow_nil _ 0 _ 1,fun k hk=>by simp [ap] at hk,Fr.refl _ _⟩
 ·have d2:decide (0<(n:Int))=true:=decide_eq_true (by omega)
  have TR:0<n:=by omega
  obtain ⟨A',c',w',gU,ho,hf,hg⟩:=lZ w 28 3 28 22 (.slice none 0 0) 24 Tryz.underlying28 Tryz.underlying3 oY rfl rfl none 0 0 [] (World.ownsRow_nil w 0 22 1) n (by unfold maxLen;omega) (by omega) (by omega)
  have sI:=QG ho
  have HO:=ae (MM ho)
  have HF:=ae hf
  have HG:al (∀k,k∈ap A'→w.heap.size≤k):=fun k hk=>by
   rcases hg k hk with h1 |h1
   ·simp [ap] at h1
   ·exact h1
  simp only [cS] at sI gU
  clear ho hf hg h0
  rcases A' with _ |⟨ga,go,gs⟩
  ·exfalso
   rcases HO.o.2 with ⟨hv,_⟩ |⟨g,cap,cur,hv,_⟩
   ·simp only [Value.slice.injEq,true_and] at hv
    omega
   ·simp at hv
  ·go_enter Tryz.func90,Tryz.ntmps90
   go_wp2_with (at_builtin;refine Lib.wpList_append_run _ rfl _ _ _ _ rfl _ _ rfl rfl _ _ gU ?_)
   go_ret
   exact ⟨some ⟨ga,go,gs⟩,c',rfl,HO.o,HG.o,HF.o⟩
theorem qF (wb:World) {ops:Array Oper} {rest:List Oper} {o:Oper} {a:Act} {Q:Exit→Act→World→Prop} (ou:o.guard=none) (s x:Operand)
  (ho:o.op= .call { callee:= .builtin .append,args:=#[s,x],argTypes:=#[28,28] }) {w3:World} {B:Nat} (A:Option Addr) (c:Nat) (hs:List Ls) (HN:NwLs w3 B A c hs) (eR:Fr [] w3 wb) (hB:B≤wb.heap.size) (n:Nat) (PV:a.eval s= .slice A n c) (hn:n=hs.length)
  (ad:Addr) (m d:Nat) (ms:List Ls) (hx:a.eval x= .slice (some ad) m d) (hm:m=ms.length) (hr:∀j:Nat,j<ms.length→wb.cell? (ad.add j)=some (ms[j]!).val)
  (LG:∀h∈ms,Ints wb h.A h.c h.l∧Ra h.l∧h.l.length≤1048576∧∀k,k∈ap h.A→B≤k) (hlen:hs.length+ms.length≤4194304)
  (h:∀A' cap w',NwLs w' B A' cap (hs++ms)→Fr (ap A) wb w'→(∀k,k∈ap A'→k∈ap A∨k=wb.heap.size)→wpList Tryz.prog ops Q rest (a.put o.dst (.slice A' (n+m) cap)) w'):
  wpList Tryz.prog ops Q (o::rest) a wb:=
 dP wb ou s x ho A c hs n PV hn (HN.keep eR).row ad m d ms hx hm hr hlen fun A' cap w' h1 h2 h3 h4=>h A' cap w' (HN.more eR LG h2 h1 h3 hB) h2 h3
def Yw (nH jz:List Ls) (k:Nat):List Ls:=if k=0 then [] else if k=1 then nH else nH++jz
theorem NwLs.AJ {w:World} {B:Nat} {A:Option Addr} {c:Nat} {hs:List Ls} (k:NwLs w B A c hs):(A=none∧hs=[]∧c=0)∨∃g,A=some ⟨g,0,none⟩∧∀j:Nat,j<hs.length→w.cell? ⟨g,j,none⟩=some (hs[j]!).val:=by
 rcases k.row.2 with ⟨hv,h0⟩ |⟨g,cap,cur,hv,hb,hg,hn,hm,jz,ht⟩
 ·simp only [Value.slice.injEq] at hv
  exact .inl ⟨hv.1,aJ hv.2.1,hv.2.2⟩
 ·simp only [Value.slice.injEq,true_and] at hv
  obtain ⟨rfl,rfl⟩:=hv
  refine .inr ⟨g,rfl,fun j hj=> ?_⟩
  rw [World.ownsRow.cellAt k.row j (by omega)]
  simp only [aO,af hj,cu,aa,ay]
theorem AI (w:World) (G:Nat) (B:Nat) (hB:B≤w.heap.size) (A1 A2:Option Addr) (c1 c2:Nat) (nH jz:List Ls) (h1:NwLs w B A1 c1 nH) (h2:NwLs w B A2 c2 jz)
  (vU:w.cell? ⟨G,0,none⟩=some (.slice A1 nH.length c1)) (sJ:w.cell? ⟨G,1,none⟩=some (.slice A2 jz.length c2)) (hl:nH.length+jz.length≤4194304):
  Calls Tryz.prog 62 #[.slice (some ⟨G,0,none⟩) 2 2] w fun e w'=>∃A c,e= .returned (.slice A (nH++jz).length c)∧NwLs w' B A c (nH++jz)∧Fr [] w w':=by
 have KG:=ae (fun W n hn=>CZ W n hn)
 have tE:=ae h1
 have jN:=ae h2
 have pu:=ae vU
 have oK:=ae sJ
 have HBW:=ae hB
 clear h1 h2
 obtain ⟨n1,oZ⟩:∃n,nH.length=n:=⟨_,rfl⟩
 obtain ⟨n2,ot⟩:∃n,jz.length=n:=⟨_,rfl⟩
 have lR:=ae oZ
 have j5:=ae ot
 have Ht:(nH++jz).length=n1+n2:=by rw [ai,oZ,ot]
 rw [Ht]
 rw [oZ] at vU hl
 rw [ot] at sJ hl
 obtain ⟨n3,CF⟩:∃n:Nat,(n1:Int)+(n2:Int)=(n:Int):=⟨n1+n2,by omega⟩
 have Lz:IntKind.i64.wrap (0+(n1:Int))=n1:=by rw [IntWalk.i64_in _ (by omega)];omega
 have dO:IntKind.i64.wrap ((n1:Int)+(n2:Int))=(n3:Int):=by rw [IntWalk.i64_in _ (by omega)];omega
 have dn1:decide ((n1:Int)<0)=false:=decide_eq_false (by omega)
 have dn2:decide ((n3:Int)<0)=false:=decide_eq_false (by omega)
 clear oZ ot Ht hB
 go_enter Tryz.func62,Tryz.ntmps62
 go_wp2_with fail
 go_loopg [3,11] 2 (fun gk x3 IE wr=>∃k:Nat,k+gk=2∧x3= .int .i64 (if k=0 then (0:Int) else if k=1 then (n1:Int) else (n3:Int))∧IE= .int .i64 k∧al (wr=w))
 case atStart=>exact ⟨0,rfl,rfl,rfl,rfl⟩
 case round=>
  obtain ⟨k,hk,rfl,rfl,HW⟩:=hrel
  have hw:=HW.o.symm
  subst hw
  clear HW
  have hk3:k=0∨k=1∨k=2:=by omega
  rcases hk3 with rfl |rfl |rfl
  ·go_wp2
   go_roundg (gk-1)
   case measure=>omega
   case rel=>exact ⟨1,by omega,by go_num,by go_num,rfl⟩
  ·go_wp2
   go_roundg (gk-1)
   case measure=>omega
   case rel=>exact ⟨2,by omega,by go_num,by go_num,rfl⟩
  ·have KG1:=ae (KG.o w n3 (by omega))
   clear hk KG Lz dO dn1 dn2
   go_wp2_with fail
   refine KG1.o.mono ?_
   clear KG1
   rintro e w1 ⟨A3,c3,rfl,ho3,Be,dD⟩
   have dy:=ae dD
   have mv:al (NwLs w1 B A3 c3 []):=⟨ho3,fun k hk=>aF HBW.o (Be k hk),fun h hh=>by cases hh⟩
   have aos:al (n1+n2=n3):=(by show _=_;omega)
   have qs:=ae Be
   clear ho3 Be dD CF
   go_wp2_with fail
   go_loopg [6,27] 2 (fun gk x6 x27 wr=>∃(k:Nat) (A':Option Addr) (c':Nat) (hs:List Ls),k+gk=2∧x6= .slice A' hs.length c'∧x27= .int .i64 k∧al (hs=Yw nH jz k)∧al (NwLs wr B A' c' hs)∧al (∀k,k∈ap A'→w.heap.size≤k)∧al (Fr [] w wr))
   case atStart=>exact ⟨0,A3,c3,[],rfl,rfl,rfl,rfl,mv.o,qs.o,dy.o⟩
   case round=>
    clear mv dy
    obtain ⟨k,A',c',hs,hk,rfl,rfl,HE,HN,HG,HF⟩:=hrel
    have HK:=ae hk
    have hk3:k=0∨k=1∨k=2:=by omega
    clear hk
    have qE:al (B≤wr.heap.size):=aF HBW.o HF.o.size
    rcases hk3 with rfl |rfl |rfl
    ·have hc:=HF.o.aT vU
     have HM:=ae (tE.o.keep HF.o)
     have eG:al (hs++nH=Yw nH jz 1):=(by rw [HE.o];rfl :_=_)
     rcases HM.o.AJ with ⟨rfl,h0,rfl⟩ |⟨g1,rfl,xE⟩
     ·have Nz:n1=0:=by rw [←lR.o,h0];rfl
      have dx:al (hs=Yw nH jz 1):=((show hs=hs++nH by rw [h0,bU]).trans eG.o:_=_)
      rw [Nz] at hc
      clear h0 Nz vU sJ
      go_wp2_with (at_builtin;refine wpList_append_own_none rfl _ _ _ rfl 0 22 _ 1 Tryz.underlying28 (info_parts oY).choose_spec.1 _ hs.length _ rfl HN.o.row rfl ?_)
      go_roundg (gk-1)
      case measure=>have :=HK.o;omega
      case rel=>exact ⟨1,A',c',hs,by have :=HK.o;omega,rfl,by go_num,dx.o,HN.o,HG.o,HF.o⟩
     ·have HCS:=ae xE
      have hle:hs.length+n1≤4194304:=by have h9:hs.length≤0:=(by rw [HE.o];exact au _);omega
      clear xE vU sJ
      go_wp2_with (at_builtin;(refine qF _ rfl _ _ rfl A' c' hs HN.o (Fr.refl _ _) qE.o hs.length rfl rfl ⟨g1,0,none⟩ n1 c1 nH rfl lR.o.symm (fun j hj=>by rw [dJ,cS];exact HCS.o j hj) HM.o.each (by rw [lR.o];exact hle) ?_;intro A4 c4 w4 tV eW Hv;have um:=ae tV;have fM:=ae (HF.o.trans eW (fun k hk=> .inr (HG.o k hk)));have Pw:al (∀k,k∈ap A4→w.heap.size≤k):=(fun k hk=>(by rcases Hv k hk with h9 |h9;exact HG.o k h9;(have :=HF.o.size;omega):w.heap.size≤k));clear tV eW Hv))
      go_roundg (gk-1)
      case measure=>have :=HK.o;omega
      case rel=>exact ⟨1,A4,c4,hs++nH,by have :=HK.o;omega,by rw [ai,lR.o],by go_num,eG.o,um.o,Pw.o,fM.o⟩
    ·have hc:=HF.o.aT sJ
     have HM:=ae (jN.o.keep HF.o)
     have eG:al (hs++jz=Yw nH jz 2):=(by rw [HE.o];rfl :_=_)
     rcases HM.o.AJ with ⟨rfl,h0,rfl⟩ |⟨g1,rfl,xE⟩
     ·have Nz:n2=0:=by rw [←j5.o,h0];rfl
      have dx:al (hs=Yw nH jz 2):=((show hs=hs++jz by rw [h0,bU]).trans eG.o:_=_)
      rw [Nz] at hc
      clear h0 Nz vU sJ
      go_wp2_with (at_builtin;refine wpList_append_own_none rfl _ _ _ rfl 0 22 _ 1 Tryz.underlying28 (info_parts oY).choose_spec.1 _ hs.length _ rfl HN.o.row rfl ?_)
      go_roundg (gk-1)
      case measure=>have :=HK.o;omega
      case rel=>exact ⟨2,A',c',hs,by have :=HK.o;omega,rfl,by go_num,dx.o,HN.o,HG.o,HF.o⟩
     ·have HCS:=ae xE
      have hle:hs.length+n2≤4194304:=by have h9:hs.length≤n1:=(by rw [HE.o];show nH.length≤n1;rw [lR.o];exact au _);omega
      clear xE vU sJ
      go_wp2_with (at_builtin;(refine qF _ rfl _ _ rfl A' c' hs HN.o (Fr.refl _ _) qE.o hs.length rfl rfl ⟨g1,0,none⟩ n2 c2 jz rfl j5.o.symm (fun j hj=>by rw [dJ,cS];exact HCS.o j hj) HM.o.each (by rw [j5.o];exact hle) ?_;intro A4 c4 w4 tV eW Hv;have um:=ae tV;have fM:=ae (HF.o.trans eW (fun k hk=> .inr (HG.o k hk)));have Pw:al (∀k,k∈ap A4→w.heap.size≤k):=(fun k hk=>(by rcases Hv k hk with h9 |h9;exact HG.o k h9;(have :=HF.o.size;omega):w.heap.size≤k));clear tV eW Hv))
      go_roundg (gk-1)
      case measure=>have :=HK.o;omega
      case rel=>exact ⟨2,A4,c4,hs++jz,by have :=HK.o;omega,by rw [ai,j5.o],by go_num,eG.o,um.o,Pw.o,fM.o⟩
    ·have DT:hs.length=n1+n2:=by rw [HE.o];show (nH++jz).length=_;rw [ai,lR.o,j5.o]
     have HNE:al (NwLs wr B A' c' (nH++jz)):=by have :=HN.o;rw [HE.o] at this;exact this
     rw [DT]
     clear HK DT vU sJ
     go_wp2
     go_ret
     exact ⟨A',c',rfl,HNE.o,HF.o⟩
structure Bq (w wr:World) (H:Qh) (q:Qn):Prop where
 fr:Fr [] w wr
 bq:At wr w.heap.size 30 (jR H q)
 bc:At wr (w.heap.size+1) 27 (kj H.H q.C)
theorem Bq.keep {w wr w':World} {H:Qh} {q:Qn} (h:Bq w wr H q) (hf:Fr [] wr w'):Bq w w' H q:=⟨h.fr.aj hf,h.bq.keep hf,h.bc.keep hf⟩
theorem Bq.start (w:World) (H:Qh) (q:Qn):Bq w ((w.alloc (.cells (jR H q) 30)).alloc (.cells (kj H.H q.C) 27)) H q:=by
 refine ⟨(aN _ _).aj (aN _ _),(At.new w _ _).keep (aN _ _),?_⟩
 have :=At.new (w.alloc (.cells (jR H q) 30)) 27 (kj H.H q.C)
 rw [show (w.alloc (.cells (jR H q) 30)).heap.size=w.heap.size+1 by simp] at this
 exact this
theorem Bq.cells {w wr:World} {H:Qh} {q:Qn} (h:Bq w wr H q):
  wr.cell? ⟨w.heap.size+1,0,none⟩=some (.int .i64 q.C.mx)∧wr.cell? ⟨w.heap.size+1,1,none⟩=some (.slice H.H.iA q.C.ins.length H.H.iC)∧wr.cell? ⟨w.heap.size+1,2,none⟩=some (.slice H.H.lA q.C.bi.length H.H.lC)∧wr.cell? ⟨w.heap.size+1,3,none⟩=some (.slice H.H.oA q.C.outs.length H.H.oC)∧
  wr.cell? ⟨w.heap.size+1,4,none⟩=some (.slice H.H.bA q.C.a8.length H.H.bC)∧wr.cell? ⟨w.heap.size+1,5,none⟩=some (.slice H.H.vA q.C.aZ.length H.H.vC)∧wr.cell? ⟨w.heap.size+1,6,none⟩=some (.slice H.H.gA q.C.aG.length H.H.gC)∧wr.cell? ⟨w.heap.size+1,7,none⟩=some (.slice H.H.nA q.C.b8.length H.H.nC):=h.bc.ON
theorem Bq.FX {w wr:World} {H:Qh} {q:Qn} (h:Bq w wr H q):
  wr.cell? ⟨w.heap.size,0,none⟩=some (.int .i64 q.C.mx)∧wr.cell? ⟨w.heap.size,1,none⟩=some (.slice H.H.iA q.C.ins.length H.H.iC)∧wr.cell? ⟨w.heap.size,2,none⟩=some (.slice H.H.lA q.C.bi.length H.H.lC)∧wr.cell? ⟨w.heap.size,3,none⟩=some (.slice H.H.oA q.C.outs.length H.H.oC)∧
  wr.cell? ⟨w.heap.size,4,none⟩=some (.slice H.H.bA q.C.a8.length H.H.bC)∧wr.cell? ⟨w.heap.size,5,none⟩=some (.slice H.H.vA q.C.aZ.length H.H.vC)∧wr.cell? ⟨w.heap.size,6,none⟩=some (.slice H.H.gA q.C.aG.length H.H.gC)∧wr.cell? ⟨w.heap.size,7,none⟩=some (.slice H.H.nA q.C.b8.length H.H.nC)∧
  wr.cell? ⟨w.heap.size,8,none⟩=some (.slice H.aA q.am.length H.aC)∧wr.cell? ⟨w.heap.size,9,none⟩=some (.slice H.lA q.ls.length H.lC)∧wr.cell? ⟨w.heap.size,10,none⟩=some (.slice H.kA q.ks.length H.kC)∧
  wr.cell? ⟨w.heap.size,11,none⟩=some (.int .i64 q.bad)∧wr.cell? ⟨w.heap.size,12,none⟩=some (.int .i64 q.dep)∧wr.cell? ⟨w.heap.size,13,none⟩=some (.int .i64 q.xG):=by
 refine ⟨?_,?_,?_,?_,?_,?_,?_,?_,?_,?_,?_,?_,?_,?_⟩<;>(rw [h.bq.cell];rfl)
def iP (C:Pc) (am:List (List Int)) (f:Int):List (List Int):=mS C (eZ C f)++mT C am (eZ C f)
theorem we {C:Pc} (hv:Valid C) (b:Int):(mS C b).length≤8193:=by
 unfold mS
 rw [ai,Oy _ _ _ (au _)]
 have h1:=BA b (Kg C) (Kg C).length
 rw [ru C] at h1
 have :=hv.m0
 have :=hv.m1
 have :=By hv
 rw [ru C]
 omega
theorem zz (w:World) (H:Qh) (q:Qn) (h:m8 w H q) (hv:Valid q.C) (hl:q.ls=[]) (hk:q.ks=[]) (hfa:∀x∈q.am,Tf x.l) (ha:q.am.length≤64) (f:Int) (hf:0≤f∧f≤80) (hb:eZ q.C f≤262144):
  Calls Tryz.prog 33 #[jv H q, .int .i64 f] w fun e w'=>∃A c hs,e= .returned (.slice A hs.length c)∧NwLs w' w.heap.size A c hs∧hs.map (·.l)=iP q.C (q.am.map (·.l)) f∧Fr [] w w':=by
 obtain ⟨w1,dO⟩:∃W,w.alloc (.cells (jR H q) 30)=W:=⟨_,rfl⟩
 obtain ⟨w2,mD⟩:∃W,w1.alloc (.cells (kj H.H q.C) 27)=W:=⟨_,rfl⟩
 have HX:=ae (Bq.start w H q)
 rw [dO,mD] at HX
 have tj:At w1 w.heap.size 30 (jR H q):=dO▸At.new _ _ _
 have nq:w1.heap.size=w.heap.size+1:=by rw [←dO];simp
 have lN:=(pb hv.m0 hv.m1 (f:=f) (by omega)).1
 have KR:=ae (iF w2 H.H q.C (h.c.keep HX.o.fr) hv f hf)
 have KB:=ae (fun W=>ld W H.H q.C hv.m0 hv.m1 f (by omega))
 have KG:=ae (fun W (hW:Fr [] w W)=>zG W H.H q.C (h.c.keep hW) hv (eZ q.C f) ⟨lN,hb⟩)
 have KF:=ae (fun W (hW:Fr [] w W)=>zH W H.H q.C (h.c.keep hW) hv H.aA H.aC q.am (h.a.keep hW) hfa ha (eZ q.C f) ⟨lN,hb⟩)
 have KC:=ae (fun W G B hB A1 A2 c1 c2 nH jz h1 h2 vU sJ hl=>AI W G B hB A1 A2 c1 c2 nH jz h1 h2 vU sJ hl)
 have Bp:=ae (we hv (eZ q.C f))
 have Ut:al ((mT q.C (q.am.map (·.l)) (eZ q.C f)).length≤128):=(by
  have h1:=wo q.C (q.am.map (·.l)) (eZ q.C f)
  rw [aq] at h1
  have :=uX hv
  show _≤_
  omega)
 have Yl:al (iP q.C (q.am.map (·.l)) f=mS q.C (eZ q.C f)++mT q.C (q.am.map (·.l)) (eZ q.C f)):=(rfl :_=_)
 obtain ⟨b,CW⟩:∃b,eZ q.C f=b:=⟨_,rfl⟩
 simp only [CW] at KB
 rw [CW] at hb KG KF Bp Ut Yl
 have d0:decide (262144<b)=false:=decide_eq_false (by omega)
 clear h hfa lN CW hb hf
 obtain ⟨⟨mx,ins,bi,outs,a8,aZ,aG,b8⟩,am,ls,ks,bad,dep,xG⟩:=q
 obtain ⟨⟨iA,iC,lA,lC,oA,oC,bA,bC,vA,vC,gA,gC,nA,nC⟩,aA,aC,mA,mC,kA,kC⟩:=H
 simp only [jv,jR,eX,kj] at *
 subst hl hk
 simp only [List.length_nil] at dO tj⊢
 obtain ⟨q0,q1,q2,q3,q4,q5,q6,q7,q8,q9,jo,jI,jH,jG⟩:=HX.o.FX
 obtain ⟨c0,c1,c2,c3,c4,c5,c6,c7⟩:=HX.o.cells
 have p0:=tj.cell 0
 have p1:=tj.cell 1
 have p2:=tj.cell 2
 have p3:=tj.cell 3
 have p4:=tj.cell 4
 have p5:=tj.cell 5
 have p6:=tj.cell 6
 have p7:=tj.cell 7
 simp at p0 p1 p2 p3 p4 p5 p6 p7
 try simp only at c0 c1 c2 c3 c4 c5 c6 c7
 try simp only [List.length_nil] at q0 q1 q2 q3 q4 q5 q6 q7 q8 q9 jo jI jH jG
 go_enter Tryz.func33,Tryz.ntmps33
 go_upto_region 2 with fail
 go_wp2_with fail
 clear p0 p1 p2 p3 p4 p5 p6 p7 q0 q1 q2 q3 q4 q5 q6 q7 q8 q9 jo jI jH jG tj dO mD
 refine KR.o.mono ?_
 rintro e w3 ⟨rfl,dD⟩
 have rU:=ae (HX.o.keep dD)
 clear dD KR HX c0 c1 c2 c3 c4 c5 c6 c7
 obtain ⟨c0,c1,c2,c3,c4,c5,c6,c7⟩:=rU.o.cells
 try simp only at c0 c1 c2 c3 c4 c5 c6 c7
 go_wp2_with fail
 refine (KB.o w3).mono ?_
 rintro e w4 ⟨rfl,dD⟩
 have nu:=ae (rU.o.keep dD)
 clear dD rU c0 c1 c2 c3 c4 c5 c6 c7
 obtain ⟨c0,c1,c2,c3,c4,c5,c6,c7⟩:=nu.o.cells
 try simp only at c0 c1 c2 c3 c4 c5 c6 c7
 go_wp2_with fail
 refine (KB.o w4).mono ?_
 rintro e w5 ⟨rfl,dD⟩
 have DC:=ae (nu.o.keep dD)
 clear dD nu c0 c1 c2 c3 c4 c5 c6 c7
 obtain ⟨c0,c1,c2,c3,c4,c5,c6,c7⟩:=DC.o.cells
 try simp only at c0 c1 c2 c3 c4 c5 c6 c7
 go_wp2_with fail
 refine (KG.o w5 DC.o.fr).mono ?_
 rintro e w6 ⟨A1,k1,nH,rfl,oZ,rT,dD⟩
 have Yd:=ae (DC.o.keep dD)
 have Pe:=ae DC.o.fr.size
 have tE:=ae (oZ.low Pe.o)
 have eG:=ae rT
 clear dD DC c0 c1 c2 c3 c4 c5 c6 c7 oZ rT Pe
 obtain ⟨c0,c1,c2,c3,c4,c5,c6,c7⟩:=Yd.o.cells
 obtain ⟨q0,q1,q2,q3,q4,q5,q6,q7,q8,q9,jo,jI,jH,jG⟩:=Yd.o.FX
 try simp only at c0 c1 c2 c3 c4 c5 c6 c7
 try simp only [List.length_nil] at q0 q1 q2 q3 q4 q5 q6 q7 q8 q9 jo jI jH jG
 go_wp2_with fail
 refine (KF.o w6 Yd.o.fr).mono ?_
 rintro e w7 ⟨A2,k2,jz,rfl,ot,jp,dD⟩
 have HX7:=ae (Yd.o.keep dD)
 have Bm:=ae Yd.o.fr.size
 have jN:=ae (ot.low Bm.o)
 have Mf:=ae (tE.o.keep dD)
 have dx:=ae jp
 clear dD Yd c0 c1 c2 c3 c4 c5 c6 c7 q0 q1 q2 q3 q4 q5 q6 q7 q8 q9 jo jI jH jG ot jp Bm tE
 obtain ⟨wb,eR⟩:∃W,w7.alloc (.cells #[.slice A1 nH.length k1, .slice A2 jz.length k2] 28)=W:=⟨_,rfl⟩
 have fE:al (Fr [] w7 wb):=eR▸aN _ _
 have vV:At wb w7.heap.size 28 #[.slice A1 nH.length k1, .slice A2 jz.length k2]:=eR▸At.new _ _ _
 have O9:=ae (HX7.o.keep fE.o)
 have tD:=ae (KC.o wb w7.heap.size w.heap.size O9.o.fr.size A1 A2 k1 k2 nH jz (Mf.o.keep fE.o) (jN.o.keep fE.o) (by rw [vV.cell];rfl) (by rw [vV.cell];rfl) (by
  have h1:=Mf.o.fQ eG.o
  have h2:=jN.o.fQ dx.o
  have h3:(mS ⟨mx,ins,bi,outs,a8,aZ,aG,b8⟩ b).length≤8193:=Bp.o
  have h4:(mT ⟨mx,ins,bi,outs,a8,aZ,aG,b8⟩ (am.map (·.l)) b).length≤128:=Ut.o
  omega))
 clear vV
 go_wp2_with fail
 refine tD.o.mono ?_
 rintro e w8 ⟨A3,k3,rfl,CF,dD⟩
 have HX8:=ae (O9.o.keep dD)
 have mv:=ae CF
 have iu:al ((nH++jz).map (·.l)=iP ⟨mx,ins,bi,outs,a8,aZ,aG,b8⟩ (am.map (·.l)) f):=(by rw [bJ,eG.o,dx.o];exact Yl.o.symm:_=_)
 obtain ⟨hs,TU⟩:∃hs,nH++jz=hs:=⟨_,rfl⟩
 rw [TU] at mv iu
 rw [TU]
 clear dD eR O9 HX7 tD CF TU
 obtain ⟨q0,q1,q2,q3,q4,q5,q6,q7,q8,q9,jo,jI,jH,jG⟩:=HX8.o.FX
 try simp only [List.length_nil] at q0 q1 q2 q3 q4 q5 q6 q7 q8 q9 jo jI jH jG
 go_wp2_with fail
 go_loopg [11,55] 0 (fun gk IE x55 wr=>IE= .slice A3 hs.length k3∧x55= .int .i64 0∧al (wr=w8))
 case atStart=>exact ⟨rfl,rfl,rfl⟩
 case round=>
  obtain ⟨rfl,rfl,HW⟩:=hrel
  have hw:=HW.o.symm
  subst hw
  clear HW
  go_wp2_with fail
  go_loopg [11,69] 0 (fun gk IE x69 wr=>IE= .slice A3 hs.length k3∧x69= .int .i64 0∧al (wr=w8))
  case atStart=>exact ⟨rfl,rfl,rfl⟩
  case round=>
   obtain ⟨rfl,rfl,HW⟩:=hrel
   have hw:=HW.o.symm
   subst hw
   clear HW
   go_wp2
   go_ret
   exact ⟨A3,k3,hs,rfl,mv.o,iu.o,HX8.o.fr⟩
def Iw (v:Int) (l:List Int):Prop:=l.length≤1024∧∀x∈l,x≠0∧ -v≤x∧x≤v
theorem Iw.mono {v v':Int} {l:List Int} (h:Iw v l) (hv:v≤v'):Iw v' l:=⟨h.1,fun x hx=>by have :=h.2 x hx;omega⟩
theorem Iw.ra {v:Int} {l:List Int} (h:Iw v l) (hv:v≤262143):Ra l:=fun j hj=>by
 have :=h.2 _ (bu hj)
 exact ⟨by omega,by omega⟩
theorem Iw.chk {v:Nat} {l:List Int} (h:Iw v l) (hv:v≤262143):fK v l=0:=by
 unfold fK
 rw [if_neg (by have :=h.1;omega),if_neg]
 intro hc
 obtain ⟨x,hx,h1⟩:=bI.1 hc
 obtain ⟨h2,h3,h4⟩:=h.2 x hx
 have :=pw h2 h3 h4 hv
 unfold iw at h1
 rw [decide_eq_false (by omega),decide_eq_false (by omega)] at h1
 cases h1
theorem lq {b m l:Int} (hb:0≤b) (hl:0≤l∧l≤2*m+1):dv b l≠0∧ -(b+m+1)≤dv b l∧dv b l≤b+m+1:=by
 unfold dv
 split<;>omega
theorem rI (C:Pc) (f:Int):eZ C (f+1)=eZ C f+C.mx+1:=by
 unfold eZ
 rw [Int.add_mul]
 omega
theorem uN {C:Pc} (h0:0≤C.mx) {f:Int} (h:0≤f):0≤eZ C f:=Int.mul_nonneg h (by omega)
theorem su {C:Pc} (hv:Valid C) {f n:Int} (hf:0≤f) (hn:n≠0∧ -(C.bi.length:Int)≤n∧n≤C.bi.length):iN C f n≠0∧ -(eZ C (f+1))≤iN C f n∧iN C f n≤eZ C (f+1):=by
 rw [rI]
 have hb:=uN hv.m0 hf
 unfold iN
 split
 ·have :=gv hv (-n-1).toNat (by omega)
  have :=lq hb (m:=C.mx) (l:=(C.bi[(-n-1).toNat]!).a) (by omega)
  omega
 ·have :=gv hv (n-1).toNat (by omega)
  have :=lq hb (m:=C.mx) (l:=(C.bi[(n-1).toNat]!).a) (by omega)
  omega
theorem Wv {C:Pc} (hv:Valid C):∀l∈qi C C.bi.length,Iw (eZ C 1) l:=fun l hl=>by
 obtain ⟨i,hi,hm⟩:=lS.1 hl
 have hi:=df.1 hi
 have key:∀n:Int,n≠0∧ -(C.bi.length:Int)≤n∧n≤C.bi.length→Iw (eZ C 1) [iN C 0 n]:=fun n hn=>⟨by simp,fun x hx=>by
  rw [ah.1 hx]
  exact su hv (f:=0) (by omega) hn⟩
 unfold FO at hm
 split at hm
 ·rw [ah.1 hm];exact key _ (by omega)
 ·split at hm
  ·rw [ah.1 hm];exact key _ (by omega)
  ·cases hm
theorem U2 {C:Pc} (hv:Valid C) {f:Int} (hf:0≤f):∀l∈og C f C.bi.length,Iw (eZ C (f+1+1)) l:=fun l hl=>by
 obtain ⟨i,hi,hm⟩:=lS.1 hl
 have hi:=df.1 hi
 have h1:=su hv (f:=f+1) (n:=(i:Int)+1) (by omega) (by omega)
 have h2:=lq (uN hv.m0 hf) (m:=C.mx) (uW hv i hi)
 have e1:=rI C (f+1)
 have e2:=rI C f
 have h0:=hv.m0
 unfold I6 at hm
 rcases av.1 hm with rfl |hm
 ·refine ⟨by simp,fun x hx=> ?_⟩
  rcases av.1 hx with rfl |hx
  ·exact h1
  ·rw [ah.1 hx];omega
 ·rw [ah.1 hm]
  refine ⟨by simp,fun x hx=> ?_⟩
  rcases av.1 hx with rfl |hx
  ·omega
  ·rw [ah.1 hx];omega
theorem Ox {C:Pc} (hv:Valid C) {b:Int} (hb:0≤b):∀l∈mS C b,Iw (b+C.mx+1) l:=fun l hl=>by
 have h0:=hv.m0
 rcases ag.1 hl with hl |hl
 ·obtain ⟨i,hi,hm⟩:=lS.1 hl
  have hi:=df.1 hi
  rw [ru] at hi
  unfold zw at hm
  split at hm
  ·cases hm
  ·rw [ah.1 hm]
   exact ⟨by simp,fun x hx=>by rw [ah.1 hx];omega⟩
 ·obtain ⟨y,hy,hm⟩:=lS.1 hl
  have hy:=List.mem_of_mem_take hy
  obtain ⟨j,hj,hyj⟩:=List.getElem_of_mem hy
  obtain ⟨a1,a2,a3⟩:=yy hv j hj
  rw [aa,af hj,ay,hyj] at a1 a2 a3
  have k1:=lq hb (m:=C.mx) a1
  have k2:=lq hb (m:=C.mx) a2
  have k3:=lq hb (m:=C.mx) a3
  unfold J7 at hm
  rcases av.1 hm with rfl |hm
  ·exact ⟨by simp,fun x hx=>by rcases av.1 hx with rfl |hx;omega;rw [ah.1 hx];omega⟩
  ·rcases av.1 hm with rfl |hm
   ·exact ⟨by simp,fun x hx=>by rcases av.1 hx with rfl |hx;omega;rw [ah.1 hx];omega⟩
   ·rw [ah.1 hm]
    exact ⟨by simp,fun x hx=>by
     rcases av.1 hx with rfl |hx
     ·omega
     ·rcases av.1 hx with rfl |hx
      ·omega
      ·rw [ah.1 hx];omega⟩
theorem Ee {C:Pc} (hv:Valid C):∀x∈C.aZ,0≤x∧x≤2*C.mx+1:=fun x hx=>by
 have h:=hv.v
 unfold uf at h
 rw [aD,kO] at h
 exact km hv (h.1 x hx)
def DR (mx:Int) (am:List (List Int)):Prop:=am.length≤64∧∀l∈am,l.length≤1024∧∀x∈l,0≤x∧x≤2*mx+1
theorem Oz {C:Pc} (hv:Valid C) {am:List (List Int)} (ha:DR C.mx am) {b:Int} (hb:0≤b):∀l∈mT C am b,Iw (b+C.mx+1) l:=fun l hl=>by
 rcases ag.1 hl with hl |hl
 ·obtain ⟨y,hy,rfl⟩:=az.1 hl
  exact ⟨by simp,fun x hx=>by rw [ah.1 hx];exact lq hb (Ee hv y hy)⟩
 ·obtain ⟨y,hy,rfl⟩:=az.1 hl
  obtain ⟨h1,h2⟩:=ha.2 y hy
  exact ⟨by rw [aq];exact h1,fun x hx=>by
   obtain ⟨z,hz,rfl⟩:=az.1 hx
   exact lq hb (h2 z hz)⟩
theorem Mp {q:Qn} (h:uY q=0):Valid q.C∧(0≤q.bad∧q.bad<q.C.a8.length∧0≤q.dep∧q.dep<80∧0≤q.xG∧q.xG≤1099511627776)∧DR q.C.mx (q.am.map (·.l)):=by
 unfold uY at h
 split at h
 ·cases h
 ·rename_i h1
  split at h
  ·cases h
  ·rename_i h2
   split at h
   ·cases h
   ·rename_i h3
    split at h
    ·cases h
    ·rename_i h4
     refine ⟨Classical.not_not.1 h1,by omega,by rw [aq];omega,fun l hl=> ?_⟩
     obtain ⟨y,hy,rfl⟩:=az.1 hl
     have h5:pj q.C.mx y.l=false:=by
      cases h6:pj q.C.mx y.l with
      |false=>rfl
      |true=>exact absurd (.inl (bI.2 ⟨y,hy,h6⟩)) h4
     unfold pj at h5
     rw [dL,decide_eq_false_iff_not,Bool.not_eq_false'] at h5
     refine ⟨by have :=h5.1;omega,fun x hx=> ?_⟩
     have h7:=h5.2
     unfold QS at h7
     have :=kO.1 h7 x hx
     simp only [aD,decide_eq_true_eq] at this
     exact this
theorem DR.agh {mx:Int} {am:List Ls} (h:DR mx (am.map (·.l))) (hm:mx≤2048):∀x∈am,Tf x.l:=fun x hx=>by
 obtain ⟨h1,h2⟩:=h.2 x.l (az.2 ⟨x,hx,rfl⟩)
 exact ⟨h1,fun y hy=>by have :=h2 y hy;omega⟩
def yw (A:Option Addr) (hs:List Ls):List Nat:=ap A++hs.flatMap fun x=>ap x.A
theorem NwLs.marks {w:World} {B:Nat} {A:Option Addr} {c:Nat} {hs:List Ls} (k:NwLs w B A c hs):∀j∈yw A hs,B≤j∧j<w.heap.size:=fun j hj=>by
 rcases ag.1 hj with h1 |h1
 ·refine ⟨k.new j h1,?_⟩
  rcases k.AJ with ⟨h2,_,_⟩ |⟨g,h2,_⟩
  ·rw [h2] at h1;simp [ap] at h1
  ·rw [h2] at h1
   simp [ap] at h1
   subst h1
   have :=k.row
   rw [h2] at this
   exact (this.lt j rfl).2
 ·obtain ⟨x,hx,h2⟩:=lS.1 h1
  exact ⟨(k.each x hx).2.2.2 j h2,(k.each x hx).1.lt j h2⟩
theorem NwLs.Ew {w:World} {B:Nat} {A:Option Addr} {c:Nat} {hs:List Ls} (k:NwLs w B A c hs):iS w A hs:=by
 refine ⟨fun h0=> ?_,fun j hj=>k.To _ (bu hj)⟩
 rcases k.AJ with ⟨_,h2,_⟩ |⟨g,h2,h3⟩
 ·rw [h2] at h0;simp at h0
 ·exact ⟨g,0,h2,fun j hj=>by rw [cS];exact h3 j hj⟩
theorem kV.perm {a:Nat→Bool} {l l':List Int} (h:kV a l) (hp:l'.Perm l):kV a l':=by
 obtain ⟨y,hy,ht⟩:=h
 exact ⟨y,hp.mem_iff.2 hy,ht⟩
namespace Sv
theorem Good.Dt {S:Sv} (h:S.Inv) {n:Nat} (hc:S.GI n) (hn:(S.rc n).lits≠[]) (h0:S.T.levels.length=0) {a:Nat→Bool} (ha:S.Good a):False:=by
 obtain ⟨y,hy,ht⟩:=ha.1 n hn
 obtain ⟨e,he,hx⟩:=hc.1 y hy
 have hr:=fm h.ok he
 have jJ:y≠0:=(h.ok.lr n y hy).1
 have :=ha.2 e he (by omega)
 rw [hx] at this
 exact (pe.neg jJ).1 this ht
theorem R8 {S:Sv} (h:S.Inv) {a:Nat→Bool} (h1:∀n,(S.rc n).lits≠[]→kV a (S.rc n).lits) (h2:∀e∈S.R,e.l=0→e.r=0→pe a e.x):S.Good a:=by
 refine ⟨h1,?_⟩
 have key:∀(k:Nat) (A:List St) (e:St) (B:List St),A.length=k→S.R=A++e::B→e.l=0→pe a e.x:=by
  intro k
  induction k using Nat.strongRecOn with
  |ind k ih=>
   intro A e B hA hR hl
   have he:e∈S.R:=by rw [hR];simp
   by_cases hr:e.r=0
   ·exact h2 e he hl hr
   ·obtain ⟨n,hn,ls,jK,gV⟩:=h.sS A e B hR hr
    obtain ⟨y,hy,ht⟩:=h1 n (by rw [jK];simp)
    rw [jK] at hy
    rcases av.1 hy with hy |hy
    ·rw [←hy];exact ht
    ·exfalso
     obtain ⟨e',dZ,hx⟩:=gV y hy
     obtain ⟨A1,B1,P4⟩:=List.append_of_mem dZ
     have hle:e'.l≤e.l:=by
      have hs:=h.ok.rep.sorted
      rw [hR] at hs
      exact (List.pairwise_append.1 hs).2.2 e' dZ e aY
     have hb:=fm h.ok (show e'∈S.R by rw [hR];exact ak _ dZ)
     have :=ih A1.length (by rw [←hA,P4];simp) A1 e' (B1++e::B) rfl (by rw [hR,P4];simp) (by omega)
     have jJ:y≠0:=(h.ok.lr n y (by rw [jK];exact aP _ hy)).1
     rw [hx] at this
     exact (pe.neg jJ).1 this ht
 intro e he hl
 obtain ⟨A,B,hR⟩:=List.append_of_mem he
 exact key A.length A e B rfl hR hl
theorem Good.mo {S S':Sv} (hm:Mo S S') (h':S'.Inv) {a:Nat→Bool} (ha:S.Good a):S'.Good a:=by
 obtain ⟨Z,hZ,hr⟩:=hm.pre
 refine R8 h' (fun n hn=> ?_) (fun e he hl h0=> ?_)
 ·have hp:=hm.lits n
  have :(S.rc n).lits≠[]:=fun e=>by rw [e] at hp;exact hn (List.perm_nil.1 hp)
  exact (ha.1 n this).perm hp
 ·rw [hZ] at he
  rcases ag.1 he with h1 |h1
  ·exact ha.2 e h1 hl
  ·exact absurd h0 (hr e h1)
def PQ (S:Sv) (a:Nat→Bool):Prop:=(∀n,(S.rc n).iY=false→(S.rc n).lits≠[]→kV a (S.rc n).lits)∧∀e∈S.R,e.l=0→pe a e.x
theorem PQ.mo {S S':Sv} (hm:Mo S S') {a:Nat→Bool} (ha:S'.PQ a):S.PQ a:=by
 obtain ⟨Z,hZ,hr⟩:=hm.pre
 refine ⟨fun n hl hn=> ?_,fun e he hl=>ha.2 e (by rw [hZ];exact ak _ he) hl⟩
 have hp:=hm.lits n
 have :(S'.rc n).lits≠[]:=fun e=>by rw [e] at hp;exact hn (List.nil_perm.1 hp)
 exact (ha.1 n ((hm.iY n).trans hl) this).perm hp.symm
structure cJ (S:Sv) (F:(Nat→Bool)→Prop):Prop where
 sound:∀a,F a→S.Good a
 bad:S.bad=true→∀a,¬F a
 full:S.bad=false→∀a,S.PQ a→F a
theorem cJ.congr {S S':Sv} {F:(Nat→Bool)→Prop} (h:S.cJ F) (hT:S'.T=S.T) (hl:S'.list=S.list) (hb:S'.bad=S.bad):S'.cJ F:=by
 have hR:=dp hT
 have ed:=jn hl
 refine ⟨fun a ha=> ?_,fun jh=>h.bad (hb▸jh),fun jh a ha=>h.full (hb▸jh) a ⟨fun n h1 h2=> ?_,fun e he=> ?_⟩⟩
 ·have :=h.sound a ha
  exact ⟨fun n hn=>by rw [ed] at hn⊢;exact this.1 n hn,fun e he=>this.2 e (hR▸he)⟩
 ·have :=ha.1 n (by rw [ed];exact h1) (by rw [ed];exact h2)
  rw [ed] at this
  exact this
 ·exact ha.2 e (by rw [hR];exact he)
theorem cJ.mo {S S':Sv} {F:(Nat→Bool)→Prop} (h:S.cJ F) (hm:Mo S S') (h':S'.Inv) (hb:S'.bad=S.bad):S'.cJ F:=
 ⟨fun a ha=>(h.sound a ha).mo hm h',fun jh=>h.bad (hb▸jh),fun jh a ha=>h.full (hb▸jh) a (ha.mo hm)⟩
theorem cJ.zero {S:Sv} {F:(Nat→Bool)→Prop} (h:S.cJ F) (hi:S.Inv) {n:Nat} (hc:S.GI n) (hn:(S.rc n).lits≠[]) (h0:S.T.levels.length=0):({ S with bad:=true }:Sv).cJ F:=by
 have oq:∀a,¬F a:=fun a ha=>(h.sound a ha).Dt hi hc hn h0
 exact ⟨fun a ha=>absurd ha (oq a),fun _=>oq,fun h=>by cases h⟩
theorem cJ.back {S:Sv} {F:(Nat→Bool)→Prop} (h:S.cJ F) (hi:S.Inv) (level:Nat):(S.back level).cJ F:=by
 by_cases hl:level<S.T.levels.length
 ·obtain ⟨h1,h2,h3,h4,B,h5,h6,h7⟩:=fj hi.ok hl
  have ed:=jn h1
  have hb:=(jk S level).2.2.2.2.1
  refine ⟨fun a ha=> ?_,fun jh=>h.bad (hb▸jh),fun jh a ha=>h.full (hb▸jh) a ⟨fun n k1 k2=> ?_,fun e he h0=> ?_⟩⟩
  ·have :=h.sound a ha
   exact ⟨fun n hn=>by rw [ed] at hn⊢;exact this.1 n hn,fun e he=>this.2 e (by rw [h5];exact ak _ he)⟩
  ·have :=ha.1 n (by rw [ed];exact k1) (by rw [ed];exact k2)
   rw [ed] at this
   exact this
  ·refine ha.2 e ?_ h0
   rw [h5] at he
   rcases ag.1 he with h8 |h8
   ·exact h8
   ·have :=h6 e h8;omega
 ·have :S.back level=S:=by
   unfold Sv.back
   rw [if_pos (by omega)]
  rw [this]
  exact h
theorem cJ.bt {B:Sv} {F:(Nat→Bool)→Prop} (h:B.cJ F) (hi:B.Inv) {l:List Int} (hf:2≤l.length→B.Fits l) (hr:B.list.length<2199023255552) (l0:0<l.length) (hl:∀x∈l,x≠0∧ -(B.vars:Int)≤x∧x≤B.vars) (tU:(l.map tv).Nodup) (hv:B.val l[0]! =0)
  (h1:2≤l.length→0<B.T.levels.length) (hs:∀a,F a→kV a l):(B.bt l).cJ F:=by
 have rS:=hl _ (get_mem (l:=l) (i:=0) l0)
 have ht:=pw rS.1 rS.2.1 rS.2.2 hi.ok.vl
 unfold Sv.bt
 by_cases e1:l.length=1
 ·rw [if_pos e1]
  have hR:=ng (r:=0) hi.ok (iH hi.ok ht.1 ht.2 hv)
  obtain ⟨y,hy⟩:∃y,l=[y]:=by
   match l,e1 with
   |[y],_=>exact ⟨y,rfl⟩
  refine ⟨fun a ha=> ?_,h.bad,fun hb a ha=>h.full hb a ⟨ha.1,fun e he h0=>ha.2 e (by rw [hR];exact ak _ he) h0⟩⟩
  have hg:=h.sound a ha
  refine ⟨hg.1,fun e he h0=> ?_⟩
  rw [hR] at he
  rcases ag.1 he with h3 |h3
  ·exact hg.2 e h3 h0
  ·rw [ah.1 h3]
   obtain ⟨z,hz,Zr⟩:=hs a ha
   rw [hy] at hz⊢
   rw [ah.1 hz] at Zr
   exact Zr
 ·rw [if_neg e1]
  have h2:2≤l.length:=by omega
  obtain ⟨k1,k2,k3⟩:=hi.attach (hf h2) tU true hr
  have uG:=ch B l true
  have hb:(B.attach l true).T.iI l[0]! =true:=by
   rw [uG.1]
   exact iH hi.ok ht.1 ht.2 hv
  have hR:=ng (r:=(B.list.length:Int)+1) k1.ok hb
  rw [dp uG.1,uG.1] at hR
  obtain ⟨S',uJ⟩:∃S':Sv,({ ((B.attach l true).put l[0]! (B.list.length+1)) with many:=B.many+1 }:Sv)=S':=⟨_,rfl⟩
  have hR':S'.R=B.R++[⟨l[0]!,B.T.levels.length,(B.list.length:Int)+1⟩]:=by rw [←uJ];exact hR
  have tS:S'.rc B.list.length=⟨l,true,B.used⟩:=by rw [←uJ];exact k2
  have vK:∀n,n≠B.list.length→S'.rc n=B.rc n:=fun n hn=>by rw [←uJ];exact k3 n hn
  have Og:S'.bad=B.bad:=by rw [←uJ];rfl
  rw [uJ]
  refine ⟨fun a ha=> ?_,fun jh=>h.bad (Og▸jh),fun jh a ha=>h.full (Og▸jh) a ⟨fun n n1 n2=> ?_,fun e he h0=>ha.2 e (by rw [hR'];exact ak _ he) h0⟩⟩
  ·have hg:=h.sound a ha
   refine ⟨fun n hn=> ?_,fun e he h0=> ?_⟩
   ·by_cases e:n=B.list.length
    ·rw [e,tS]
     exact hs a ha
    ·rw [vK n e] at hn⊢
     exact hg.1 n hn
   ·rw [hR'] at he
    rcases ag.1 he with h3 |h3
    ·exact hg.2 e h3 h0
    ·rw [ah.1 h3] at h0
     have h0:(B.T.levels.length:Int)=0:=h0
     have :=h1 h2
     omega
  ·have dI:n≠B.list.length:=fun e=>by
    have :=lx n2
    omega
   have :=ha.1 n (by rw [vK n dI];exact n1) (by rw [vK n dI];exact n2)
   rw [vK n dI] at this
   exact this
theorem Good.jP {S S1:Sv} (h:S1.jP=S.jP) {a:Nat→Bool} (ha:S1.Good a):S.Good a:=by
 have hR:S1.R=S.R:=dp (congrArg (fun x=>x.1) h)
 refine ⟨fun n hn=> ?_,fun e he=>ha.2 e (hR▸he)⟩
 rw [←(j7 h n).1] at hn⊢
 exact ha.1 n hn
theorem cJ.jP {S S1:Sv} (h:S1.jP=S.jP) {F:(Nat→Bool)→Prop} (hk:S.cJ F):S1.cJ F:=by
 have hR:S1.R=S.R:=dp (congrArg (fun x=>x.1) h)
 have hb:S1.bad=S.bad:=congrArg (fun x=>x.2.2.2.2.2.2.2.2.2.2.2.1) h
 refine ⟨fun a ha=>Good.jP h.symm (hk.sound a ha),fun h2=>hk.bad (hb▸h2),fun h2 a ha=>hk.full (hb▸h2) a ⟨fun n n1 n2=> ?_,fun e he=>ha.2 e (hR▸he)⟩⟩
 have :=ha.1 n ((j7 h n).2.trans n1) (by rw [(j7 h n).1];exact n2)
 rw [(j7 h n).1] at this
 exact this
theorem cJ.conflict {S:Sv} {F:(Nat→Bool)→Prop} (hk:S.cJ F) (h:S.Inv) {n:Nat} (hc:S.GI n) (hn:(S.rc n).lits≠[]) (hr:S.list.length<2199023255552) (hd:0<S.T.levels.length) {S2:Sv} (he:S.conflict n=some (S2,true)):S2.cJ F:=by
 obtain ⟨S1,l,cj,h1,h2,h3⟩:=iM h.ok h.sS h.dec hc hd hn
 obtain ⟨sl,eT,eV,eL,eU,f0,f1,f2,f3,f4⟩:=fR h.ok h1
 have uK:S1.Inv:=h.congr sl eT (congrArg (fun x=>x.2.2.2.2.2.2.1) h2) (fun j=>(j7 h2 j).1) (congrArg (fun x=>x.2.2.1) h2)
 have T5:S1.R=S.R:=dp eT
 have bM:=h3.lt
 have lI:cj.toNat<S1.T.levels.length:=by rw [eT];omega
 obtain ⟨b1,b2,b3,b4,BB,b5,b6,b7⟩:=fj uK.ok lI
 have Wf:=(uK.ok.back cj.toNat).2.1
 have Ia:=uK.back cj.toNat
 have ke:∀e∈(S1.back cj.toNat).R,e∈S.R:=fun e he=>by rw [←T5,b5];exact ak _ he
 obtain ⟨et,het,tY,JT⟩:=h3.top
 have Hz:S2=((S1.back cj.toNat).bt l).bX:=by
  unfold Sv.conflict at he
  rw [if_neg (by omega),h1] at he
  simp only [Option.some.injEq,Prod.mk.injEq] at he
  exact he.1.symm
 rw [Hz]
 have hv:(S1.back cj.toNat).val l[0]! =0:=by
  rcases gx Ia.ok l[0]! with h5 |h5 |h5
  ·exact h5
  ·exfalso
   obtain ⟨e,he,hx⟩:=(fu Ia.ok l[0]!).1 (by omega)
   exact iJ h.ok (ke e he) het (by rw [hx,tY])
  ·exfalso
   obtain ⟨e,he,hx⟩:=(val_neg Ia.ok).1 (by omega:(S1.back cj.toNat).val l[0]! <0)
   have np:e.x=et.x:=by rw [hx,tY];omega
   have :=jm h.ok (ke e he) het (by rw [np])
   have :=b7 e he
   subst_vars
   omega
 have hkL:((S1.back cj.toNat).bt l).cJ F:=by
  refine ((hk.jP h2).back uK cj.toNat).bt Ia (fun h5=>⟨h5,f1,by rw [Wf,eV];exact f2⟩) (by rw [b1,eL];exact hr) f0 (by rw [Wf,eV];exact f2) h3.nd hv (fun h5=> ?_) (fun a ha=>h3.sem a (hk.sound a ha))
  obtain ⟨e,he,hx,vQ,jM⟩:=h3.tail 1 (au 1) h5
  rw [b3]
  omega
 exact hkL.congr rfl rfl rfl
theorem cJ.bW {S:Sv} {F:(Nat→Bool)→Prop} (h:S.cJ F) {n:Nat} (hl:(S.rc n).iY=true):(S.bW n).cJ F:=by
 refine ⟨fun a ha=> ?_,h.bad,fun hb a ha=>h.full hb a ⟨fun j h1 h2=> ?_,ha.2⟩⟩
 ·have hg:=h.sound a ha
  refine ⟨fun j hj=> ?_,hg.2⟩
  rw [eK] at hj⊢
  split
  ·rename_i e
   rw [if_pos e] at hj
   exact absurd rfl hj
  ·rename_i e
   rw [if_neg e] at hj
   exact hg.1 j hj
 ·have dI:¬(n=j∧n<S.list.length):=fun e=>by
   rw [←e.1,hl] at h1
   cases h1
  have :=ha.1 j (by rw [eK,if_neg dI];exact h1) (by rw [eK,if_neg dI];exact h2)
  rw [eK,if_neg dI] at this
  exact this
end Sv
namespace Sv
def As (us:List Int) (S:Sv):Prop:=∀i:Nat,i<S.T.levels.length→i<us.length→∃e∈S.R,e.x=us[i]! ∧e.l≤i+1
def Dc (us:List Int) (S:Sv):Prop:=∀e∈S.R,e.r=0→1≤e.l→e.l≤us.length→∃i:Nat,i<us.length∧e.x=us[i]!
theorem As.mo {us:List Int} {S S':Sv} (h:As us S) (hm:Mo S S') (hl:S'.T.levels.length=S.T.levels.length):As us S':=fun i h1 h2=>by
 obtain ⟨Z,hZ,_⟩:=hm.pre
 obtain ⟨e,he,hx⟩:=h i (by omega) h2
 exact ⟨e,by rw [hZ];exact ak _ he,hx⟩
theorem Dc.mo {us:List Int} {S S':Sv} (h:Dc us S) (hm:Mo S S'):Dc us S':=fun e he hr h1 h2=>by
 obtain ⟨Z,hZ,hz⟩:=hm.pre
 rw [hZ] at he
 rcases ag.1 he with h3 |h3
 ·exact h e h3 hr h1 h2
 ·exact absurd hr (hz e h3)
theorem As.back {us:List Int} {S:Sv} (h:As us S) {m:Nat} (ok:S.Ok m) (level:Nat):As us (S.back level):=by
 by_cases hl:level<S.T.levels.length
 ·obtain ⟨h1,h2,h3,h4,B,h5,h6,h7⟩:=fj ok hl
  intro i k1 k2
  rw [h3] at k1
  obtain ⟨e,he,hx,hle⟩:=h i (by omega) k2
  refine ⟨e,?_,hx,hle⟩
  rw [h5] at he
  rcases ag.1 he with h8 |h8
  ·exact h8
  ·have :=h6 e h8;omega
 ·have :S.back level=S:=by
   unfold Sv.back
   rw [if_pos (by omega)]
  rw [this]
  exact h
theorem Dc.back {us:List Int} {S:Sv} (h:Dc us S) {m:Nat} (ok:S.Ok m) (level:Nat):Dc us (S.back level):=by
 by_cases hl:level<S.T.levels.length
 ·obtain ⟨h1,h2,h3,h4,B,h5,h6,h7⟩:=fj ok hl
  exact fun e he=>h e (by rw [h5];exact ak _ he)
 ·have :S.back level=S:=by
   unfold Sv.back
   rw [if_pos (by omega)]
  rw [this]
  exact h
theorem As.congr {us:List Int} {S S':Sv} (h:As us S) (hT:S'.T=S.T):As us S':=by
 unfold As at *
 rw [dp hT,hT]
 exact h
theorem Dc.congr {us:List Int} {S S':Sv} (h:Dc us S) (hT:S'.T=S.T):Dc us S':=by
 unfold Dc at *
 rw [dp hT]
 exact h
theorem As.put {us:List Int} {S:Sv} (h:As us S) {m:Nat} (ok:S.Ok m) (x r:Int):As us (S.put x r):=by
 intro i h1 h2
 rw [dF] at h1
 obtain ⟨e,he,hx⟩:=h i h1 h2
 refine ⟨e,?_,hx⟩
 by_cases hb:S.T.iI x=true
 ·rw [ng ok hb];exact ak _ he
 ·rw [dp (show (S.put x r).T=S.T by unfold Sv.put;simp only;rw [if_neg hb])];exact he
theorem Dc.put {us:List Int} {S:Sv} (h:Dc us S) {m:Nat} (ok:S.Ok m) (x r:Int) (hr:r=0→S.T.levels.length=0∨us.length<S.T.levels.length∨∃i:Nat,i<us.length∧x=us[i]!):Dc us (S.put x r):=by
 by_cases hb:S.T.iI x=true
 ·intro e he h0 h1 h2
  rw [ng ok hb] at he
  rcases ag.1 he with h3 |h3
  ·exact h e h3 h0 h1 h2
  ·rw [ah.1 h3] at h0 h1 h2⊢
   have h1:(1:Int)≤S.T.levels.length:=h1
   have h2:(S.T.levels.length:Int)≤us.length:=h2
   rcases hr h0 with h4 |h4 |h4
   ·omega
   ·omega
   ·exact h4
 ·exact h.congr (show (S.put x r).T=S.T by unfold Sv.put;simp only;rw [if_neg hb])
theorem Ce {us:List Int} {B:Sv} (h:B.Inv) (ha:As us B) (hd:Dc us B) {l:List Int} (h1:l.length=1→B.T.levels.length=0):As us (B.bt l).bX∧Dc us (B.bt l).bX:=by
 by_cases e1:l.length=1
 ·have e:(B.bt l).bX.T=(B.put l[0]! 0).T:=by unfold bt;rw [if_pos e1];rfl
  exact ⟨(ha.put h.ok l[0]! 0).congr e,(hd.put h.ok l[0]! 0 (fun _=> .inl (h1 e1))).congr e⟩
 ·have e:(B.bt l).bX.T=(B.put l[0]! (B.list.length+1)).T:=by
   unfold bt
   rw [if_neg e1]
   show ((B.attach l true).put l[0]! _).T=_
   unfold Sv.put
   simp only
   rw [(ch B l true).1]
  exact ⟨(ha.put h.ok l[0]! _).congr e,(hd.put h.ok l[0]! _ (fun e=>by omega)).congr e⟩
theorem yb {us:List Int} {S:Sv} (h:S.Inv) (ha:As us S) (hd:Dc us S) {n:Nat} (hc:S.GI n) (hn:(S.rc n).lits≠[]) (JX:0<S.T.levels.length) {S2:Sv} (he:S.conflict n=some (S2,true)):As us S2∧Dc us S2:=by
 obtain ⟨S1,l,cj,h1,h2,h3⟩:=iM h.ok h.sS h.dec hc JX hn
 obtain ⟨sl,eT,eV,eL,eU,f0,f1,f2,f3,f4⟩:=fR h.ok h1
 have uK:S1.Inv:=h.congr sl eT (congrArg (fun x=>x.2.2.2.2.2.2.1) h2) (fun j=>(j7 h2 j).1) (congrArg (fun x=>x.2.2.1) h2)
 have bM:=h3.lt
 have lI:cj.toNat<S1.T.levels.length:=by rw [eT];omega
 have Hz:S2=((S1.back cj.toNat).bt l).bX:=by
  unfold Sv.conflict at he
  rw [if_neg (by omega),h1] at he
  simp only [Option.some.injEq,Prod.mk.injEq] at he
  exact he.1.symm
 rw [Hz]
 exact Ce (uK.back cj.toNat) ((ha.congr eT).back sl _) ((hd.congr eT).back sl _) (fun h5=>by
  rw [(fj sl lI).2.2.1,h3.one h5]
  rfl)
theorem o9 {S:Sv} (h:S.Inv):∀(Q D:List St) (g met:List Int),S.R=Q.reverse++D→
  (∀m∈met,m∈dB S (Q.map (·.x)) g met)∧
  (∀m∈dB S (Q.map (·.x)) g met,m∈met∨∃e∈S.R,e.r=0∧1≤e.l∧e.x=m)∧
  ∀a,S.Good a→(∀m∈dB S (Q.map (·.x)) g met,pe a m)→∀e∈Q,tv e.x∈g→pe a e.x
 |[],D,g,met,hR=>⟨fun m hm=>hm,fun m hm=> .inl hm,fun a _ _ e he=>by cases he⟩
 |e0::Q,D,g,met,hR=>by
  have Bg:S.R=Q.reverse++(e0::D):=by rw [hR];simp
  have pq:e0∈S.R:=by rw [Bg];simp
  obtain ⟨hl,hr⟩:=kF h.ok pq
  have TK:=fm h.ok pq
  rw [cM,dB,hl,hr]
  by_cases hs:tv e0.x∉g∨e0.l=0
  ·rw [if_pos hs]
   obtain ⟨i1,i2,i3⟩:=o9 h Q (e0::D) g met Bg
   refine ⟨i1,i2,fun a ha ht e he hg=> ?_⟩
   rcases av.1 he with rfl |he
   ·rcases hs with hs |hs
    ·exact absurd hg hs
    ·exact ha.2 e pq hs
   ·exact i3 a ha ht e he hg
  ·rw [if_neg hs]
   have vQ:1≤e0.l:=by
    have :¬e0.l=0:=fun e=>hs (.inr e)
    omega
   by_cases h0:e0.r-1<0
   ·rw [if_pos h0]
    have hrz:e0.r=0:=by
     have :=(h.ok.rs (tv e0.x)).1
     rw [hr] at this
     omega
    obtain ⟨i1,i2,i3⟩:=o9 h Q (e0::D) g (e0.x::met) Bg
    refine ⟨fun m hm=>i1 m (aP _ hm),fun m hm=> ?_,fun a ha ht e he hg=> ?_⟩
    ·rcases i2 m hm with h1 |h1
     ·rcases av.1 h1 with h1 |h1
      ·exact .inr ⟨e0,pq,hrz,vQ,h1.symm⟩
      ·exact .inl h1
     ·exact .inr h1
    ·rcases av.1 he with rfl |he
     ·exact ht _ (i1 _ aY)
     ·exact i3 a ha ht e he hg
   ·rw [if_neg h0]
    obtain ⟨n,hn,ls,jK,gV⟩:=h.sS _ _ _ Bg (by omega:e0.r≠0)
    rw [hn,show ((n:Int)+1-1).toNat=n by omega]
    obtain ⟨i1,i2,i3⟩:=o9 h Q (e0::D) ((S.rc n).lits.map tv++g) met Bg
    refine ⟨i1,i2,fun a ha ht e he hg=> ?_⟩
    rcases av.1 he with rfl |he
    ·obtain ⟨y,hy,hyt⟩:=ha.1 n (by rw [jK];simp)
     have kS:=hy
     rw [jK] at hy
     rcases av.1 hy with h5 |h5
     ·rw [←h5];exact hyt
     ·exfalso
      obtain ⟨e',dZ,hx⟩:=gV y h5
      have hR':e'∈S.R:=by rw [Bg];exact ak _ dZ
      have Nj:=(jb h.ok hR' hx).1
      have :=i3 a ha ht e' (cP.1 dZ) (by rw [←Nj];exact ak _ (ia kS))
      rw [hx] at this
      exact (pe.neg (h.ok.lr n y kS).1).1 this hyt
    ·exact i3 a ha ht e he (aM _ hg)
theorem wP (met:List Int):∀(us P core:List Int),(∀x∈core,x∈P∧x∈met)→(∀x∈P,x∈met→x∈core)→core.Pairwise (fun x y=>(P++us).idxOf x<(P++us).idxOf y)→
  (∀x∈gJ met us core,x∈P++us∧x∈met)∧(∀x∈P++us,x∈met→x∈gJ met us core)∧(gJ met us core).Pairwise (fun x y=>(P++us).idxOf x<(P++us).idxOf y)
 |[],P,core,h1,h2,h3=>by
  rw [gJ]
  rw [bU] at *
  exact ⟨h1,h2,h3⟩
 |x::r,P,core,h1,h2,h3=>by
  rw [gJ]
  have e:P++x::r=(P++[x])++r:=by simp
  rw [e] at h3⊢
  by_cases hc:x∈met∧x∉core
  ·rw [if_pos hc]
   have hnP:x∉P:=fun hx=>hc.2 (h2 x hx hc.1)
   refine wP met r (P++[x]) (core++[x]) (fun y hy=> ?_) (fun y hy hm=> ?_) ?_
   ·rcases ag.1 hy with h4 |h4
    ·exact ⟨ak _ (h1 y h4).1,(h1 y h4).2⟩
    ·rw [ah.1 h4]
     exact ⟨by simp,hc.1⟩
   ·rcases ag.1 hy with h4 |h4
    ·exact ak _ (h2 y h4 hm)
    ·exact aM _ h4
   ·rw [List.pairwise_append]
    refine ⟨h3,List.pairwise_singleton _ _,fun y hy z hz=> ?_⟩
    rw [ah.1 hz]
    have hyP:=(h1 y hy).1
    rw [js,List.idxOf_append,if_pos hyP,List.idxOf_append,if_neg hnP]
    have :=List.idxOf_lt_length_of_mem hyP
    omega
  ·rw [if_neg hc]
   refine wP met r (P++[x]) core (fun y hy=>⟨ak _ (h1 y hy).1,(h1 y hy).2⟩) (fun y hy hm=> ?_) h3
   rcases ag.1 hy with h4 |h4
   ·exact h2 y h4 hm
   ·rw [ah.1 h4] at hm⊢
    exact jF fun hn=>hc ⟨hm,hn⟩
end Sv
theorem yJ {H:Hp} (h:HI H) (x y:Int) (hy:y∈(Sv.ff H x).items):y∈H.items∨y=x:=by
 unfold Sv.ff at hy
 split at hy
 ·rename_i hb
  exact ((h.push hb.1 hb.2).2.2.2.2 y).1 hy
 ·exact .inl hy
theorem sU {H:Hp} (h:HI H) (x:Int) {y:Int} (hy:y∈H.items):y∈(Sv.ff H x).items:=by
 unfold Sv.ff
 split
 ·rename_i hb
  exact ((h.push hb.1 hb.2).2.2.2.2 y).2 (.inl hy)
 ·exact hy
theorem BW {H:Hp} (h:HI H) {x:Int} (h1:0≤x) (h2:x<H.at_.length):x∈(Sv.ff H x).items:=by
 have hb:H.iV x=true:=by simp [Hp.iV,h1,h2]
 unfold Sv.ff
 by_cases hp:H.pl x<0
 ·rw [if_pos ⟨hb,hp⟩]
  exact ((h.push hb hp).2.2.2.2 x).2 (.inr rfl)
 ·rw [if_neg (fun e=>hp e.2)]
  obtain ⟨k1,k2⟩:=h.pc.inv x.toNat (by omega) (by show 0≤H.pl x;omega)
  rw [show ((x.toNat:Nat):Int)=x by omega] at k2
  rw [←k2]
  exact get_mem k1
theorem ve {H:Hp} (h:HI H) (x b:Int):HI (Sv.lG H x b)∧∀y,y∈(Sv.lG H x b).items↔y∈H.items:=by
 unfold Sv.lG
 split
 ·rename_i hb
  obtain ⟨k1,k2,k3,k4,k5⟩:=h.raise hb.1 hb.2.1 hb.2.2.1 hb.2.2.2
  exact ⟨k1,k5⟩
 ·exact ⟨h,fun y=>Iff.rfl⟩
namespace Sv
structure Hc (S:Sv):Prop where
 all:∀v:Int,1≤v→v≤S.vars→S.val v=0→v∈S.H.items
 pos:∀x∈S.H.items,1≤x
theorem Hc.mono {S S':Sv} {m m':Nat} (ok:S.Ok m) (XI:S'.Ok m') (h:S.Hc) (hv:S'.vars=S.vars) (hH:∀y,y∈S'.H.items↔y∈S.H.items) (hR:∀e∈S.R,e∈S'.R):S'.Hc:=by
 refine ⟨fun v h1 h2 h3=>(hH v).2 (h.all v h1 (by rw [←hv];exact h2) ?_),fun x hx=>h.pos x ((hH x).1 hx)⟩
 rcases gx ok v with h4 |h4 |h4
 ·exact h4
 ·exfalso
  obtain ⟨e,he,hx⟩:=(fu ok v).1 (by omega)
  exact (iE XI h3 e (hR e he)).1 hx
 ·exfalso
  obtain ⟨e,he,hx⟩:=(val_neg ok).1 (by omega:S.val v<0)
  exact (iE XI h3 e (hR e he)).2 hx
theorem BZ {S0:Sv} {m0:Nat} (ok0:S0.Ok m0):∀(f:Nat) (S:Sv) (m:Nat),S.Ok m→S.T=S0.T→S.Hc→S.H.items.length<f→
  ((cI f S).2=0→(∀x∈(cI f S).1.H.items,1≤x)∧∀v:Int,1≤v→v≤S.vars→S0.val v≠0)∧
  ((cI f S).2≠0→(∀x∈(cI f S).1.H.items,1≤x)∧∀v:Int,1≤v→v≤S.vars→S0.val v=0→v∈(cI f S).1.H.items∨(cI f S).2=v∨(cI f S).2= -v)
 |0,S,m,ok,hT,h,hf=>absurd hf (aI _)
 |f+1,S,m,ok,hT,h,hf=>by
  have Co:∀x,S.val x=S0.val x:=fun x=>by unfold val;rw [hT]
  rw [cI]
  by_cases h0:S.H.items.length=0
  ·rw [if_pos h0]
   refine ⟨fun _=>⟨h.pos,fun v h1 h2 h3=> ?_⟩,fun h=>absurd rfl h⟩
   have :=h.all v h1 h2 (by rw [Co];exact h3)
   rw [aJ h0] at this
   cases this
  ·rw [if_neg h0]
   obtain ⟨k1,k2,k3,k4,k5⟩:=ok.hi.pop (by omega)
   have ZS:=(ok.hi.root (by omega)).1
   have hv1:=h.pos _ ZS
   obtain ⟨v0,LB⟩:∃v0,S.H.it 0=v0:=⟨_,rfl⟩
   rw [LB] at k5 hv1⊢
   have sl:({ S with H:=S.H.jS }:Sv).Ok m:=⟨ok.vl,ok.tr,k1,by show S.H.jS.at_.length=_;rw [k4];exact ok.hl,ok.ph,ok.wl,ok.ll,ok.wb,ok.wt,ok.lr,ok.ln,ok.lb,ok.hd,ok.rs⟩
   simp only
   by_cases hv:({ S with H:=S.H.jS }:Sv).val v0≠0
   ·rw [if_pos hv]
    have hv':S0.val v0≠0:=by rw [←Co];exact hv
    have vU:({ S with H:=S.H.jS }:Sv).Hc:=⟨fun v h1 h2 h3=>(k5 v).2 ⟨h.all v h1 h2 h3,fun e=>hv (e▸h3)⟩,fun x hx=>h.pos x ((k5 x).1 hx).1⟩
    exact BZ ok0 f _ m sl hT vU (by show S.H.jS.items.length<f;omega)
   ·rw [if_neg hv]
    simp only
    have dI:(if S.phase[v0.toNat]! =true then v0 else -v0)≠0:=by split<;>omega
    refine ⟨fun e=>absurd e dI,fun _=>⟨fun x hx=>h.pos x ((k5 x).1 hx).1,fun v h1 h2 h3=> ?_⟩⟩
    by_cases e:v=v0
    ·right
     split
     ·exact .inl e.symm
     ·exact .inr (by rw [e])
    ·exact .inl ((k5 v).2 ⟨h.all v h1 h2 (by rw [Co];exact h3),e⟩)
theorem MU {S:Sv} (h:S.Inv) (hf:S.head=S.T.lits.length) (hs:∀v:Int,1≤v→v≤S.vars→S.val v≠0) (a:Nat→Bool) (ha:∀v:Nat,1≤v→v≤S.vars→a v=decide (0<S.val (v:Int))):
  (∀e∈S.R,pe a e.x)∧∀n,(S.rc n).lits≠[]→kV a (S.rc n).lits:=by
 have nF:=h.ok.vl
 have hT:∀e∈S.R,pe a e.x:=fun e he=>by
  have hr:=fm h.ok he
  have hn:e.x.natAbs=(tv e.x).toNat∧(tv e.x=e.x∧0<e.x∨tv e.x= -e.x∧e.x<0):=by
   have h1:=hr.1
   have h2:=hr.2.1
   unfold tv at h1 h2⊢
   split at h1
   ·omega
   ·rename_i e1
    rw [if_neg e1] at h2⊢
    split at h1
    ·rename_i e2
     rw [if_pos e2] at h2⊢
     omega
    ·rename_i e2
     rw [if_neg e2] at h2⊢
     omega
  unfold pe
  rw [hn.1,ha _ (by omega) (by omega)]
  have e1:(((tv e.x).toNat:Nat):Int)=tv e.x:=by omega
  rw [e1,decide_eq_true_eq]
  rcases hn.2 with ⟨h1,h2⟩ |⟨h1,h2⟩
  ·rw [h1]
   exact ⟨fun _=>h2,fun _=>(fu h.ok _).2 ⟨e,he,rfl⟩⟩
  ·rw [h1]
   have :S.val (-e.x)<0:=(val_neg h.ok).2 ⟨e,he,by omega⟩
   exact ⟨fun h=>by omega,fun h=>by omega⟩
 refine ⟨hT,fun n hn=> ?_⟩
 have h2:=pU h.ok hn
 have hl:=h.ok.lit (n:=n) (k:=0) (by omega)
 have ht:=pw hl.1 hl.2.1 hl.2.2 nF
 have hv:S.val (S.rc n).lits[0]! ≠0:=fun e=>by
  have Vf:=hs (tv (S.rc n).lits[0]!) ht.1 ht.2
  have :tv (S.rc n).lits[0]! =(S.rc n).lits[0]! ∨tv (S.rc n).lits[0]! = -(S.rc n).lits[0]! :=by
   unfold tv
   split
   ·exact .inl rfl
   ·split
    ·exact .inr rfl
    ·exact .inl rfl
  rcases this with h3 |h3
  ·rw [h3] at Vf;exact Vf e
  ·rw [h3] at Vf;exact Vf (GL h.ok e)
 rcases gx h.ok (S.rc n).lits[0]! with h3 |h3 |h3
 ·exact absurd h3 hv
 ·obtain ⟨e,he,hx⟩:=(fu h.ok (S.rc n).lits[0]!).1 (by omega)
  exact ⟨(S.rc n).lits[0]!,get_mem (by omega),hx▸hT e he⟩
 ·obtain ⟨e,he,hx⟩:=(val_neg h.ok).1 (by omega:S.val (S.rc n).lits[0]! <0)
  obtain ⟨e',dZ,PS,_⟩:=(h.wt n hn e (by rw [hf,←iT,eD];exact he)).1 hx
  exact ⟨(S.rc n).lits[1]!,get_mem (by omega),PS▸hT e' dZ⟩
end Sv
namespace Sv
theorem tB (level:Int):∀(Q:List St) (S:Sv) (m:Nat),S.Ok m→(∀e∈Q,e∈S.R)→Q.Pairwise (fun a b:St=>b.l≤a.l)→(∀y∈S.H.items,1≤y)→
  (∀y∈S.H.items,y∈(dM level (Q.map (·.x)) S).H.items)∧(∀e∈Q,level<e.l→tv e.x∈(dM level (Q.map (·.x)) S).H.items)∧∀y∈(dM level (Q.map (·.x)) S).H.items,1≤y
 |[],S,m,ok,hq,hp,h1=>⟨fun y hy=>hy,(fun e he=>by cases he),h1⟩
 |e0::Q,S,m,ok,hq,hp,h1=>by
  rw [List.pairwise_cons] at hp
  have pq:=hq e0 aY
  have hl:=(kF ok pq).1
  have hr:=fm ok pq
  rw [cM]
  by_cases hs:e0.l≤level
  ·rw [qm (by rw [hl];exact hs)]
   refine ⟨fun y hy=>hy,fun e he hle=> ?_,h1⟩
   exfalso
   rcases av.1 he with rfl |he
   ·omega
   ·have :=hp.1 e he;omega
  ·rw [wZ (by rw [hl];exact hs)]
   have Z0:∀y∈(ff S.H (tv e0.x)).items,1≤y:=fun y hy=>by
    rcases yJ ok.hi _ _ hy with h2 |h2
    ·exact h1 y h2
    ·rw [h2];exact hr.1
   obtain ⟨i1,i2,i3⟩:=tB level Q _ m (ok.pO e0.x) (fun e he=>hq e (aP _ he)) hp.2 Z0
   have ke:tv e0.x∈(ff S.H (tv e0.x)).items:=BW ok.hi (by omega) (by rw [ok.hl];omega)
   refine ⟨fun y hy=>i1 y (sU ok.hi _ hy),fun e he hle=> ?_,i3⟩
   rcases av.1 he with rfl |he
   ·exact i1 _ ke
   ·exact i2 e he hle
theorem UP {S:Sv} {m:Nat} (ok:S.Ok m) {v:Int} (h1:1≤v) (h2:v≤S.vars) (h:S.val v≠0):∃e∈S.R,tv e.x=v∧(e.x=v∨e.x= -v):=by
 have nF:=ok.vl
 rcases gx ok v with h3 |h3 |h3
 ·exact absurd h3 h
 ·obtain ⟨e,he,hx⟩:=(fu ok v).1 (by omega)
  exact ⟨e,he,by rw [hx,mH (by omega)], .inl hx⟩
 ·obtain ⟨e,he,hx⟩:=(val_neg ok).1 (by omega:S.val v<0)
  exact ⟨e,he,by rw [hx,pV (by omega) (by omega)];omega, .inr hx⟩
theorem Hc.back {S:Sv} (h:S.Hc) {m:Nat} (ok:S.Ok m) (level:Nat):(S.back level).Hc:=by
 by_cases hl:level<S.T.levels.length
 ·obtain ⟨h1,h2,h3,h4,B,h5,h6,h7⟩:=fj ok hl
  have Nr:S.T.lits.reverse=S.R.reverse.map (·.x):=by rw [ok.rep.lits,List.map_reverse]
  have Hl:S.R.reverse.Pairwise (fun a b:St=>b.l≤a.l):=List.pairwise_reverse.2 ok.rep.sorted
  obtain ⟨i1,i2,i3⟩:=tB (level:Int) S.R.reverse S m ok (fun e he=>cP.1 he) Hl h.pos
  rw [←Nr] at i1 i2 i3
  have hH:(S.back level).H=(dM (level:Int) S.T.lits.reverse S).H:=by
   unfold Sv.back
   rw [if_neg (by omega)]
  have QJ:=(ok.back level).1
  have hv:=(ok.back level).2.1
  refine ⟨fun v v1 v2 v3=> ?_,fun x hx=>i3 x (hH▸hx)⟩
  rw [hH]
  by_cases h0:S.val v=0
  ·exact i1 v (h.all v v1 (by rw [←hv];exact v2) h0)
  ·obtain ⟨e,he,ht,hx⟩:=UP ok v1 (by rw [←hv];exact v2) h0
   have dI:e∉(S.back level).R:=fun hm=>by
    have :=iE QJ v3 e hm
    exact hx.elim this.1 this.2
   have hle:(level:Int)<e.l:=by
    rw [h5] at he
    rcases ag.1 he with h8 |h8
    ·exact absurd h8 dI
    ·exact h6 e h8
   rw [←ht]
   exact i2 e (cP.2 he) hle
 ·have :S.back level=S:=by
   unfold Sv.back
   rw [if_pos (by omega)]
  rw [this]
  exact h
theorem EF {G:Gr} (h:HI G.S.H) (l:Int):HI (meet G l).S.H∧∀y,y∈(meet G l).S.H.items↔y∈G.S.H.items:=by
 unfold meet
 simp only
 split
 ·exact ⟨h,fun y=>Iff.rfl⟩
 ·split
  ·exact ve h _ _
  ·exact ve h _ _
theorem oe (skip:Int):∀(ls:List Int) (G:Gr),HI G.S.H→HI (meets skip ls G).S.H∧∀y,y∈(meets skip ls G).S.H.items↔y∈G.S.H.items
 |[],G,h=>⟨h,fun y=>Iff.rfl⟩
 |l::r,G,h=>by
  rw [meets]
  split
  ·obtain ⟨h1,h2⟩:=EF h l
   obtain ⟨h3,h4⟩:=oe skip r _ h1
   exact ⟨h3,fun y=>(h4 y).trans (h2 y)⟩
  ·exact oe skip r G h
theorem qZ:∀(f:Nat) (G:Gr) (n skip:Int) (rest:List Int) (GE:Gr) (xe:Int),HI G.S.H→fg f G n skip rest=some (GE,xe)→∀y,y∈GE.S.H.items↔y∈G.S.H.items
 |0,G,n,skip,rest,GE,xe,hi,h=>by rw [jx] at h;cases h
 |f+1,G,n,skip,rest,GE,xe,hi,h=>by
  rw [kp] at h
  have hk:HI (dH G n skip).S.H∧∀y,y∈(dH G n skip).S.H.items↔y∈G.S.H.items:=by
   unfold dH
   split
   ·exact oe skip _ { G with S:=G.S.gf n.toNat } hi
   ·exact ⟨hi,fun y=>Iff.rfl⟩
  generalize dH G n skip=G1 at h hk
  unfold dR at h
  cases hq:rest.dropWhile (fun x=>decide (tv x∉G1.seen)) with
  |nil=>rw [hq] at h;cases h
  |cons x r=>
   rw [hq] at h
   simp only at h
   split at h
   ·simp only [Option.some.injEq,Prod.mk.injEq] at h
    obtain ⟨rfl,rfl⟩:=h
    exact hk.2
   ·exact fun y=>(qZ f { G1 with fF:=G1.fF-1 } _ _ _ GE xe hk.1 h y).trans (hk.2 y)
theorem xQ {S:Sv} {m:Nat} (ok:S.Ok m) {n:Nat} {S1:Sv} {l:List Int} {cj:Int} (h:S.gF n=some (S1,l,cj)):∀y,y∈S1.H.items↔y∈S.H.items:=by
 unfold gF at h
 cases hq:fg (S.T.lits.length+1) ⟨S,[],0,[0]⟩ n 0 S.T.lits.reverse with
 |none=>rw [hq] at h;cases h
 |some p=>
  obtain ⟨G,x⟩:=p
  rw [hq] at h
  simp only [Option.some.injEq,Prod.mk.injEq] at h
  obtain ⟨rfl,_⟩:=h
  exact qZ _ _ _ _ _ G x ok.hi hq
theorem ML (S:Sv) {m:Nat} (ok:S.Ok m) (x r:Int):∀e∈S.R,e∈(S.put x r).R:=fun e he=>by
 by_cases hb:S.T.iI x=true
 ·rw [ng ok hb];exact ak _ he
 ·rw [dp (show (S.put x r).T=S.T by unfold Sv.put;simp only;rw [if_neg hb])];exact he
theorem I9 {B:Sv} {m:Nat} (ok:B.Ok m) (l:List Int):(B.bt l).bX.H=B.H∧(B.bt l).bX.vars=B.vars∧∀e∈B.R,e∈(B.bt l).bX.R:=by
 by_cases e1:l.length=1
 ·have e:(B.bt l)=B.put l[0]! 0:=by unfold bt;rw [if_pos e1]
  rw [e]
  exact ⟨rfl,rfl,ML B ok _ _⟩
 ·have e:(B.bt l)={ ((B.attach l true).put l[0]! (B.list.length+1)) with many:=B.many+1 }:=by unfold bt;rw [if_neg e1]
  have hT:(B.bt l).bX.T=(B.put l[0]! (B.list.length+1)).T:=by
   rw [e]
   show ((B.attach l true).put l[0]! _).T=_
   unfold Sv.put
   simp only
   rw [(ch B l true).1]
  have hR:(B.bt l).bX.R=(B.put l[0]! (B.list.length+1)).R:=dp hT
  refine ⟨by rw [e];exact (ch B l true).2.2.2.2.2,by rw [e];exact (ch B l true).2.1,fun x hx=> ?_⟩
  rw [hR]
  exact ML B ok _ _ x hx
theorem Hc.conflict {S:Sv} (hh:S.Hc) (h:S.Inv) {n:Nat} (hc:S.GI n) (hn:(S.rc n).lits≠[]) (hr:S.list.length<2199023255552) (JX:0<S.T.levels.length) {S2:Sv} (he:S.conflict n=some (S2,true)):S2.Hc:=by
 obtain ⟨S1,l,cj,h1,h2,h3⟩:=iM h.ok h.sS h.dec hc JX hn
 obtain ⟨sl,eT,eV,eL,eU,f0,f1,f2,f3,f4⟩:=fR h.ok h1
 have Hz:S2=((S1.back cj.toNat).bt l).bX:=by
  unfold Sv.conflict at he
  rw [if_neg (by omega),h1] at he
  simp only [Option.some.injEq,Prod.mk.injEq] at he
  exact he.1.symm
 have vU:S1.Hc:=hh.mono h.ok sl eV (xQ h.ok h1) (fun e he=>by rw [dp eT];exact he)
 have hb:=vU.back sl cj.toNat
 have QJ:=(sl.back cj.toNat)
 have To:=QJ.1.bt f0 f1 (by rw [QJ.2.1,eV];exact f2) (by rw [QJ.2.2,eL];exact hr)
 obtain ⟨k1,k2,k3⟩:=I9 QJ.1 l
 rw [Hz]
 exact hb.mono QJ.1 To.bX k2 (fun y=>by rw [k1]) k3
theorem Hc.rest {S S':Sv} (h:S.Hc) {m m':Nat} (ok:S.Ok m) (XI:S'.Ok m') (hm:Mo S S') (hr:S'.rest=S.rest):S'.Hc:=by
 have e1:S'.H=S.H:=congrArg (fun x=>x.1) hr
 have e2:S'.vars=S.vars:=congrArg (fun x=>x.2.1) hr
 obtain ⟨Z,hZ,_⟩:=hm.pre
 exact h.mono ok XI e2 (fun y=>by rw [e1]) (fun e he=>by rw [hZ];exact ak _ he)
end Sv
namespace Sv
structure Up (S S':Sv):Prop where
 R:∃Z,S'.R=S.R++Z∧∀e∈Z,1≤e.l
 list:S'.list=S.list
 bad:S'.bad=S.bad
 vars:S'.vars=S.vars
theorem Up.Tt {S S':Sv} {F:(Nat→Bool)→Prop} (u:Up S S') (h:S.cJ F):S'.cJ F:=by
 obtain ⟨Z,hZ,hz⟩:=u.R
 have ed:=jn u.list
 refine ⟨fun a ha=> ?_,fun hb=>h.bad (u.bad▸hb),fun hb a ha=>h.full (u.bad▸hb) a ⟨fun n h1 h2=> ?_,fun e he h0=>ha.2 e (by rw [hZ];exact ak _ he) h0⟩⟩
 ·have hg:=h.sound a ha
  refine ⟨fun n hn=>by rw [ed] at hn⊢;exact hg.1 n hn,fun e he h0=> ?_⟩
  rw [hZ] at he
  rcases ag.1 he with h1 |h1
  ·exact hg.2 e h1 h0
  ·have :=hz e h1;omega
 ·have :=ha.1 n (by rw [ed];exact h1) (by rw [ed];exact h2)
  rw [ed] at this
  exact this
structure SA (us:List Int) (S':Sv):Prop where
 set:∀v:Int,1≤v→v≤S'.vars→S'.val v≠0
 us:∀u∈us,∃e∈S'.R,e.x=u
 full:S'.head=S'.T.lits.length
 model:S'.model=(List.range (S'.vars+1)).map fun v:Nat=>decide (0<S'.val (v:Int))
 has:S'.has=true
structure Sp (us:List Int) (S':Sv):Prop where
 no:∀a,S'.Good a→¬∀u∈S'.core,pe a u
 sub:∀u∈S'.core,u∈us
 ord:S'.core.Pairwise (fun x y=>us.idxOf x<us.idxOf y)
theorem IT (S:Sv) {m:Nat} (ok:S.Ok m):S.pick.1.T=S.T∧S.pick.1.list=S.list∧S.pick.1.bad=S.bad∧S.pick.1.vars=S.vars∧S.pick.1.head=S.head:=by
 obtain ⟨p1,p2,p3,p4,p5,p6,p7⟩:=ok.pick
 exact ⟨p2,p4,(pY _ S).2.2.2.2,p3,p5⟩
theorem rF {us:List Int} {S:Sv} (h:S.Inv) (hf:S.head=S.T.lits.length) (hA:As us S) (hD:Dc us S) (hc:S.Hc) (hl:us.length≤S.T.levels.length):
  (S.choose.2=0∨S.choose.2=1)∧Up S S.choose.1∧(S.choose.2=0→As us S.choose.1∧Dc us S.choose.1)∧S.choose.1.Hc∧(S.choose.2=1→SA us S.choose.1∧S.choose.1.T=S.T):=by
 obtain ⟨s1,s2,s3,s4,s5⟩:=IT S h.ok
 have hI:=(choose_spec h hf).1
 obtain ⟨c1,c2⟩:=BZ h.ok (S.H.items.length+1) S 0 h.ok rfl hc (by omega)
 have c0:S.pick.2=0→∀x∈S.pick.1.H.items,1≤x:=fun e=>(c1 e).1
 have c1:S.pick.2=0→∀v:Int,1≤v→v≤S.vars→S.val v≠0:=fun e=>(c1 e).2
 have c2:S.pick.2≠0→(∀x∈S.pick.1.H.items,1≤x)∧∀v:Int,1≤v→v≤S.vars→S.val v=0→v∈S.pick.1.H.items∨S.pick.2=v∨S.pick.2= -v:=c2
 unfold choose at hI⊢
 by_cases h0:S.pick.2=0
 ·rw [if_pos h0] at hI⊢
  have hT:S.pick.1.keep.T=S.T:=s1
  have hR:S.pick.1.keep.R=S.R:=dp hT
  refine ⟨.inr rfl,⟨⟨[],by rw [hR,bU],fun e he=>by cases he⟩,s2,s3,s4⟩,fun h=>(by cases h),⟨fun v v1 v2 v3=>absurd v3 (by
   have :S.pick.1.keep.val v=S.val v:=by unfold val;rw [hT]
   rw [this]
   exact c1 h0 v v1 (by rw [←s4];exact v2)),c0 h0⟩,fun _=>⟨⟨fun v v1 v2=> ?_,fun u hu=> ?_,?_,rfl,rfl⟩,hT⟩⟩
  ·have v2:v≤S.pick.1.vars:=v2
   have :S.pick.1.keep.val v=S.val v:=by unfold val;rw [hT]
   rw [this]
   exact c1 h0 v v1 (by rw [←s4];exact v2)
  ·obtain ⟨i,hi,hg⟩:=List.getElem_of_mem hu
   obtain ⟨e,he,hx,_⟩:=hA i (by omega) hi
   exact ⟨e,by rw [hR];exact he,by rw [hx,kU hi,hg]⟩
  ·show S.pick.1.head=_
   rw [s5,hT];exact hf
 ·rw [if_neg h0] at hI⊢
  obtain ⟨k1,k2⟩:=c2 h0
  have hv:=sh h.ok _ S rfl h0
  have hIp:S.pick.1.Inv:=by
   obtain ⟨p1,p2,p3,p4,p5,p6,p7⟩:=h.ok.pick
   refine h.congr p1 p2 p5 (fun n=>by rw [jn p4]) ?_
   have :∀(f:Nat) (S:Sv),(cI f S).1.watch=S.watch:=by
    intro f
    induction f with
    |zero=>intro S;rfl
    |succ f ih=>
     intro S
     rw [cI]
     split
     ·rfl
     ·simp only
      split
      ·exact ih _
      ·rfl
   exact this _ S
  obtain ⟨p1,p2,p3,p4,p5,p6,p7⟩:=h.ok.pick
  obtain ⟨q1,q2⟩:=hIp.choice (by rw [s1,s5];exact hf) h0 (by rw [s4];exact p6) (by rw [s4];exact p7) (by unfold val;rw [s1];exact hv)
  rw [dp s1,s1] at q2
  have hAp:As us S.pick.1:=hA.congr s1
  have hDp:Dc us S.pick.1:=hD.congr s1
  have hAd:As us S.pick.1.deep:=fun i i1 i2=>by
   obtain ⟨e,he,hx⟩:=hAp i (by rw [s1];omega) i2
   exact ⟨e,by rw [qp hIp.ok];exact he,hx⟩
  have hDd:Dc us S.pick.1.deep:=fun e he=>hDp e (by rw [qp hIp.ok] at he;exact he)
  refine ⟨.inl rfl,⟨⟨_,q2,fun e he=>by rw [ah.1 he];show (1:Int)≤((S.T.levels.length+1:Nat):Int);omega⟩,s2,s3,s4⟩,fun _=>⟨hAd.put hIp.ok.deep _ _,hDd.put hIp.ok.deep _ _ (fun _=> .inr (.inl (by rw [dG,s1];omega)))⟩,⟨fun v v1 v2 v3=> ?_,k1⟩,fun h=>by cases h⟩
  have v2:v≤S.pick.1.vars:=v2
  have hold:S.val v=0:=by
   rcases gx h.ok v with h4 |h4 |h4
   ·exact h4
   ·exfalso
    obtain ⟨e,he,hx⟩:=(fu h.ok v).1 (by omega)
    exact (iE q1.ok v3 e (by rw [q2];exact ak _ he)).1 hx
   ·exfalso
    obtain ⟨e,he,hx⟩:=(val_neg h.ok).1 (by omega:S.val v<0)
    exact (iE q1.ok v3 e (by rw [q2];exact ak _ he)).2 hx
  have Fg:=iE q1.ok v3 ⟨S.pick.2,(S.T.levels.length+1:Nat),0⟩ (by rw [q2];simp)
  rcases k2 v v1 (by rw [←s4];exact v2) hold with h5 |h5 |h5
  ·exact h5
  ·exact absurd h5 Fg.1
  ·exact absurd h5 Fg.2
end Sv
namespace Sv
theorem Km {us:List Int} {S:Sv} (h:S.Inv) (hD:Dc us S) (gI:S.core=[]) (hd:S.T.levels.length<us.length) {a:Int} (ha:a∈us) (ha0:a≠0) (hv:S.val a= -1):Sp us (S.wV a us):=by
 have Nr:S.T.lits.reverse=S.R.reverse.map (·.x):=by rw [h.ok.rep.lits,List.map_reverse]
 obtain ⟨b1,b2,b3⟩:=o9 h S.R.reverse [] [tv a] [a] (by simp)
 rw [←Nr] at b1 b2 b3
 have ke:∀m∈dB S S.T.lits.reverse [tv a] [a],m∈us:=fun m hm=>by
  rcases b2 m hm with h1 |⟨e,he,hr,hl,hx⟩
  ·rw [ah.1 h1];exact ha
  ·have TK:=fm h.ok he
   obtain ⟨i,hi,XK⟩:=hD e he hr hl (by omega)
   rw [←hx,XK]
   exact get_mem hi
 obtain ⟨c1,c2,c3⟩:=wP (dB S S.T.lits.reverse [tv a] [a]) us [] [] (fun x hx=>by cases hx) (fun x hx=>by cases hx) List.Pairwise.nil
 have hc:(S.wV a us).core=gJ (dB S S.T.lits.reverse [tv a] [a]) us []:=by
  show gJ _ us S.core=_
  rw [gI]
 refine ⟨fun a' hg gV=> ?_,fun u hu=> ?_,?_⟩
 ·have hg:S.Good a':=hg
  have aaf:∀m∈dB S S.T.lits.reverse [tv a] [a],pe a' m:=fun m hm=>gV m (by rw [hc];exact c2 m (ke m hm) hm)
  obtain ⟨e,he,hx⟩:=(val_neg h.ok).1 (by omega:S.val a<0)
  have ht:=(jb h.ok he hx).1
  have h1:=b3 a' hg aaf e (cP.2 he) (by rw [←ht];exact ah.2 rfl)
  rw [hx] at h1
  exact (pe.neg ha0).1 h1 (aaf a (b1 a (ah.2 rfl)))
 ·rw [hc] at hu
  exact (c1 u hu).1
 ·rw [hc]
  exact c3
theorem Kh {us:List Int} {S:Sv} {m:Nat} (ok:S.Ok m) (hA:As us S) (hD:Dc us S) (hv:S.T.levels.length<us.length→∃e∈S.R,e.x=us[S.T.levels.length]!):As us S.deep∧Dc us S.deep:=by
 refine ⟨fun i i1 i2=> ?_,fun e he=>hD e (by rw [qp ok] at he;exact he)⟩
 rw [dG] at i1
 rw [qp ok]
 by_cases h:i<S.T.levels.length
 ·exact hA i h i2
 ·have :i=S.T.levels.length:=by omega
  subst this
  obtain ⟨e,he,hx⟩:=hv i2
  have :=(fm ok he).2.2.2
  exact ⟨e,he,hx,by omega⟩
theorem pM {us:List Int}:∀(f:Nat) (S:Sv),S.Inv→S.head=S.T.lits.length→(∀x∈us,x≠0∧ -(S.vars:Int)≤x∧x≤S.vars)→As us S→Dc us S→S.Hc→S.core=[]→us.length≤f+S.T.levels.length→
  ((bv us f S).2=0∨(bv us f S).2=1∨(bv us f S).2=2)∧Up S (bv us f S).1∧
  ((bv us f S).2=0→As us (bv us f S).1∧Dc us (bv us f S).1)∧(bv us f S).1.Hc∧
  ((bv us f S).2=1→SA us (bv us f S).1)∧((bv us f S).2=2→Sp us (bv us f S).1)
 |0,S,h,hf,hu,hA,hD,hc,gI,hl=>by
  obtain ⟨k1,k2,k3,k5,k4⟩:=rF h hf hA hD hc (by omega)
  have e:bv us 0 S=S.choose:=rfl
  rw [e]
  exact ⟨k1.elim .inl (fun h=> .inr (.inl h)),k2,k3,k5,fun h=>(k4 h).1,fun h=>by rcases k1 with k1 |k1<;>omega⟩
 |f+1,S,h,hf,hu,hA,hD,hc,gI,hl=>by
  rw [bv]
  by_cases hd:S.T.levels.length<us.length
  ·rw [if_pos hd]
   have hm:=get_mem (l:=us) hd
   have ha:=hu _ hm
   simp only
   by_cases h1:S.val us[S.T.levels.length]! = -1
   ·rw [if_pos h1]
    exact ⟨.inr (.inr rfl),⟨⟨[],by rw [bU];rfl,fun e he=>by cases he⟩,rfl,rfl,rfl⟩,fun h=>(by cases h),⟨hc.all,hc.pos⟩,fun h=>(by cases h),fun _=>Km h hD gI hd hm ha.1 h1⟩
   ·rw [if_neg h1]
    by_cases h2:S.val us[S.T.levels.length]! =0
    ·rw [if_pos h2]
     obtain ⟨q1,q2⟩:=h.choice hf ha.1 ha.2.1 ha.2.2 h2
     refine ⟨.inl rfl,⟨⟨_,q2,fun e he=>by rw [ah.1 he];show (1:Int)≤((S.T.levels.length+1:Nat):Int);omega⟩,rfl,rfl,rfl⟩,fun _=>⟨fun i i1 i2=> ?_,fun e he h0 l1 l2=> ?_⟩,?_,fun h=>(by cases h),fun h=>(by cases h)⟩
     ·rw [dF,dG] at i1
      by_cases hi:i<S.T.levels.length
      ·obtain ⟨e,he,hx⟩:=hA i hi i2
       exact ⟨e,by rw [q2];exact ak _ he,hx⟩
      ·have :i=S.T.levels.length:=by omega
       subst this
       exact ⟨⟨us[S.T.levels.length]!,(S.T.levels.length+1:Nat),0⟩,by rw [q2];simp,rfl,by show ((S.T.levels.length+1:Nat):Int)≤_;omega⟩
     ·rw [q2] at he
      rcases ag.1 he with h3 |h3
      ·exact hD e h3 h0 l1 l2
      ·rw [ah.1 h3]
       exact ⟨_,hd,rfl⟩
     ·exact hc.mono h.ok q1.ok rfl (fun y=>Iff.rfl) (fun e he=>by rw [q2];exact ak _ he)
    ·rw [if_neg h2]
     have ZJ:∃e∈S.R,e.x=us[S.T.levels.length]! :=by
      rcases gx h.ok us[S.T.levels.length]! with h3 |h3 |h3
      ·exact absurd h3 h2
      ·exact (fu h.ok _).1 (by rw [h3];decide)
      ·exact absurd h3 h1
     obtain ⟨d1,d2⟩:=Kh h.ok hA hD (fun _=>ZJ)
     have hRd:=qp h.ok
     have hcd:S.deep.Hc:=hc.mono h.ok h.ok.deep rfl (fun y=>Iff.rfl) (fun e he=>by rw [hRd];exact he)
     obtain ⟨i1,i2,i3,i4,i5,i6⟩:=pM f S.deep (h.deep hf) hf hu d1 d2 hcd gI (by rw [dG];omega)
     obtain ⟨Z,hZ,hz⟩:=i2.R
     exact ⟨i1,⟨⟨Z,by rw [hZ,hRd],hz⟩,i2.list,i2.bad,i2.vars⟩,i3,i4,i5,i6⟩
  ·rw [if_neg hd]
   obtain ⟨k1,k2,k3,k5,k4⟩:=rF h hf hA hD hc (by omega)
   exact ⟨k1.elim .inl (fun h=> .inr (.inl h)),k2,k3,k5,fun h=>(k4 h).1,fun h=>by rcases k1 with k1 |k1<;>omega⟩
end Sv
theorem rB {xs:List Int}:∀k,k≤xs.length→∀j,j<k→xs[j]! ∈fX xs k
 |0,_,j,h=>absurd h (aI _)
 |k+1,hk,j,h=>by
  rw [fX]
  by_cases hc:k=0∨xs[k]! ≠xs[k-1]!
  ·rw [if_pos hc]
   by_cases e:j=k
   ·rw [e];simp
   ·exact ak _ (rB k (by omega) j (by omega))
  ·rw [if_neg hc]
   by_cases e:j=k
   ·have h0:k≠0:=fun e=>hc (.inl e)
    have h1:xs[k]! =xs[k-1]! :=jF fun e=>hc (.inr e)
    rw [e,h1]
    exact rB k (by omega) (k-1) (by omega)
   ·exact rB k (by omega) j (by omega)
theorem G9 {l:List Int} {x:Int} (h:x∈l) (h0:x≠0):x∈nrm l:=by
 have h1:x∈jZ (l.filter fun x=> !(x==0)):=List.mem_mergeSort.2 (cq.2 ⟨h,by simpa using h0⟩)
 obtain ⟨i,hi,hg⟩:=List.getElem_of_mem h1
 have :=rB (xs:=jZ (l.filter fun x=> !(x==0))) _ (au _) i hi
 rw [kU hi,hg] at this
 exact this
theorem Mr {ys:List Int} {v:Nat} (hr:∀x∈ys,x≠0∧ -(v:Int)≤x∧x≤v) (hv:v≤262143) (h:px ys=true) (a:Nat→Bool):kV a ys:=by
 unfold px at h
 rw [bI] at h
 obtain ⟨j,hj,ht⟩:=h
 rw [df] at hj
 unfold lD at ht
 have m1:=get_mem (l:=ys) (i:=j) (by omega)
 have m2:=get_mem (l:=ys) (i:=j+1) (by omega)
 have r2:=hr _ m2
 have :wrap64 (-(ys[j+1]!))= -(ys[j+1]!):=by unfold wrap64;omega
 rw [this] at ht
 have ht:ys[j]! = -(ys[j+1]!):=by simpa using ht
 by_cases hc:pe a ys[j+1]!
 ·exact ⟨_,m2,hc⟩
 ·exact ⟨_,m1,by rw [ht];exact (pe.neg r2.1).2 hc⟩
namespace Sv
theorem cJ.new (vars:Int):(Sv.new vars).cJ fun _=>True:=by
 have hR:(Sv.new vars).R=[]:=rfl
 have ed:∀n,(Sv.new vars).rc n=⟨[],false,0⟩:=fun n=>mL (bH _)
 exact ⟨fun a _=>⟨fun n hn=>absurd (by rw [ed]) hn,fun e he=>by rw [hR] at he;cases he⟩,fun h=>(by cases h),fun _ a _=>trivial⟩
theorem cJ.bw {S:Sv} {F:(Nat→Bool)→Prop} (h:S.cJ F):S.bw.cJ F:=h.congr rfl rfl rfl
theorem cJ.cE {S:Sv} {F:(Nat→Bool)→Prop} (h:S.cJ F):S.cE.cJ F:=h.congr rfl rfl rfl
theorem cJ.ge {S:Sv} {F:(Nat→Bool)→Prop} (h:S.cJ F) (hi:S.Inv) {out:List Int} (h1:out.length≤1048576) (hl:∀x∈out,x≠0∧ -(S.vars:Int)≤x∧x≤S.vars) (hd:(out.map tv).Nodup) (hv:∀x∈out,S.val x=0) (hr:S.list.length<2199023255552) (h0:S.T.levels.length=0)
  {G:(Nat→Bool)→Prop} (hG:∀a,F a→(G a↔kV a out)):(S.ge out).cJ fun a=>F a∧G a:=by
 unfold Sv.ge
 by_cases e0:out.length=0
 ·rw [if_pos e0]
  have hn:out=[]:=aJ e0
  have oq:∀a,¬(F a∧G a):=fun a ⟨hf,hg⟩=>by
   obtain ⟨y,hy,_⟩:=(hG a hf).1 hg
   rw [hn] at hy
   cases hy
  exact ⟨fun a ha=>absurd ha (oq a),fun _=>oq,fun h=>by cases h⟩
 ·rw [if_neg e0]
  have hm:=get_mem (l:=out) (i:=0) (by omega)
  by_cases e1:out.length=1
  ·rw [if_pos e1]
   obtain ⟨y,hy⟩:∃y,out=[y]:=by
    match out,e1 with
    |[y],_=>exact ⟨y,rfl⟩
   have ht:=pw (hl _ hm).1 (hl _ hm).2.1 (hl _ hm).2.2 hi.ok.vl
   have hR:=ng (r:=0) hi.ok (iH hi.ok ht.1 ht.2 (hv _ hm))
   rw [h0] at hR
   have jJ:out[0]! =y:=by rw [hy];rfl
   rw [jJ] at hR⊢
   have hs:∀a,kV a out↔pe a y:=fun a=>by
    rw [hy]
    exact ⟨fun ⟨z,hz,Zr⟩=>by rw [ah.1 hz] at Zr;exact Zr,fun h=>⟨y,ah.2 rfl,h⟩⟩
   refine ⟨fun a ⟨ha,hg⟩=> ?_,fun hb a ha=>h.bad hb a ha.1,fun hb a ha=> ?_⟩
   ·have ou:=h.sound a ha
    refine ⟨ou.1,fun e he rS=> ?_⟩
    rw [hR] at he
    rcases ag.1 he with h3 |h3
    ·exact ou.2 e h3 rS
    ·rw [ah.1 h3]
     exact (hs a).1 ((hG a ha).1 hg)
   ·have hf:F a:=h.full hb a ⟨ha.1,fun e he rS=>ha.2 e (by rw [hR];exact ak _ he) rS⟩
    refine ⟨hf,(hG a hf).2 ((hs a).2 ?_)⟩
    exact ha.2 ⟨y,((0:Nat):Int),0⟩ (by rw [hR];simp) rfl
  ·rw [if_neg e1]
   obtain ⟨k1,k2,k3⟩:=hi.attach ⟨by omega,h1,hl⟩ hd false hr
   have uG:=ch S out false
   have hR:(S.attach out false).R=S.R:=dp uG.1
   have dI:out≠[]:=fun e=>e0 (by rw [e];rfl)
   have Og:(S.attach out false).bad=S.bad:=rfl
   refine ⟨fun a ⟨ha,hg⟩=> ?_,fun hb a ha=>h.bad hb a ha.1,fun hb a ha=> ?_⟩
   ·have ou:=h.sound a ha
    refine ⟨fun n hn=> ?_,fun e he rS=>ou.2 e (hR▸he) rS⟩
    by_cases e:n=S.list.length
    ·rw [e,k2]
     exact (hG a ha).1 hg
    ·rw [k3 n e] at hn⊢
     exact ou.1 n hn
   ·have hf:F a:=h.full hb a ⟨fun n n1 n2=> ?_,fun e he rS=>ha.2 e (by rw [hR];exact he) rS⟩
    ·refine ⟨hf,(hG a hf).2 ?_⟩
     have :=ha.1 S.list.length (by rw [k2]) (by rw [k2];exact dI)
     rw [k2] at this
     exact this
    ·have y9:n≠S.list.length:=fun e=>by
      have :=lx n2
      omega
     have :=ha.1 n (by rw [k3 n y9];exact n1) (by rw [k3 n y9];exact n2)
     rw [k3 n y9] at this
     exact this
theorem cJ.fl {S:Sv} {F:(Nat→Bool)→Prop} (h:S.cJ F) (hi:S.Inv) (h0:S.T.levels.length=0) {l:List Int} (lM:Ra l) (hr:S.list.length<2199023255552) (hc:fK S.vars l=0):(S.fl l).1.cJ fun a=>F a∧kV a l:=by
 have sJ:=o6 lM hc
 have hnr:∀x∈nrm l,x≠0∧ -(S.vars:Int)≤x∧x≤S.vars:=fun x hx=>sJ.2 x (lp hx).1
 have Hr:∀a,kV a (nrm l)↔kV a l:=fun a=>⟨fun ⟨y,hy,ht⟩=>⟨y,(lp hy).1,ht⟩,fun ⟨y,hy,ht⟩=>⟨y,G9 hy (sJ.2 y hy).1,ht⟩⟩
 unfold Sv.fl
 rw [if_pos hc]
 by_cases hs:S.lX (nrm l)=true
 ·rw [if_pos hs]
  simp only
  by_cases hb:S.bad=true
  ·exact ⟨fun a ha=>absurd ha.1 (h.bad hb a),fun _ a ha=>h.bad hb a ha.1,fun jh=>by
    have jh:S.bad=false:=jh
    rw [hb] at jh;cases jh⟩
  ·have gV:∀a,S.PQ a→kV a l:=fun a ha=>by
    rw [←Hr]
    unfold lX at hs
    rw [Bool.or_eq_true] at hs
    rcases hs with hs |hs
    ·exact Mr hnr hi.ok.vl hs a
    ·rw [bI] at hs
     obtain ⟨x,hx,hp⟩:=hs
     obtain ⟨e,he,hex⟩:=(fu hi.ok x).1 (by simpa using hp)
     have TK:=fm hi.ok he
     have :=ha.2 e he (by omega)
     rw [hex] at this
     exact ⟨x,hx,this⟩
   exact ⟨fun a ha=>h.bw.sound a ha.1,fun jh=>absurd jh hb,fun jh a ha=>⟨h.bw.full jh a ha,gV a ha⟩⟩
 ·rw [if_neg hs]
  simp only
  obtain ⟨g1,g2⟩:=ol (S:=S) lM hc
  have hs:S.lX (nrm l)=false:=by simpa using hs
  unfold lX at hs
  rw [dL] at hs
  have hd:=vn (l:=l) (v:=S.vars) (fun x hx=>(hnr x hx).2) hi.ok.vl hs.1
  refine h.bw.ge hi.bw (by omega) g2 ?_ (fun x hx=> ?_) hr h0 (fun a ha=> ?_)
  ·unfold leftOf
   exact hd.sublist (List.Sublist.map tv (List.filter_sublist))
  ·unfold leftOf at hx
   rw [cq] at hx
   have h3:¬S.val x<0:=by simpa using hx.2
   have h4:¬0<S.val x:=fun h5=>by
    have :(nrm l).any (fun x=>decide (0<S.val x))=true:=bI.2 ⟨x,hx.1,by simpa using h5⟩
    rw [this] at hs
    cases hs.2
   show S.val x=0
   omega
  ·rw [←Hr]
   constructor
   ·rintro ⟨y,hy,ht⟩
    refine ⟨y,?_,ht⟩
    unfold leftOf
    rw [cq]
    refine ⟨hy,?_⟩
    have :¬S.val y<0:=fun sC=>by
     obtain ⟨e,he,hx⟩:=(val_neg hi.ok).1 sC
     have TK:=fm hi.ok he
     have :=(h.sound a ha).2 e he (by omega)
     rw [hx] at this
     exact (pe.neg (hnr y hy).1).1 this ht
    simpa using this
   ·rintro ⟨y,hy,ht⟩
    unfold leftOf at hy
    exact ⟨y,(cq.1 hy).1,ht⟩
end Sv
namespace Sv
theorem Inv.bW {S:Sv} (h:S.Inv) {n:Nat} (hr:∀e∈S.R,e.r≠(n:Int)+1):(S.bW n).Inv:=by
 have ok:=h.ok.bW n
 have ed:∀j,j≠n→(S.bW n).rc j=S.rc j:=fun j hj=>by rw [eK,if_neg (fun e=>hj e.1.symm)]
 have dI:∀j,((S.bW n).rc j).lits≠[]→j≠n:=fun j hj e=>by
  subst e
  rw [eK] at hj
  split at hj
  ·exact hj rfl
  ·rename_i hh
   have :¬j<S.list.length:=fun e=>hh ⟨rfl,e⟩
   exact hj (by rw [mL (by omega)])
 refine ⟨ok,fun j=> ?_,fun A e B h1 h2=> ?_,h.dec,h.hd,⟨h.wi.nd,fun c j hj hl=> ?_,fun j hl=> ?_⟩,fun j hl e he=> ?_⟩
 ·by_cases e:j=n
  ·by_cases hl:((S.bW n).rc j).lits=[]
   ·rw [hl];exact List.nodup_nil
   ·exact absurd e (dI j hl)
  ·rw [ed j e];exact h.kg j
 ·obtain ⟨k,hk,ls,jK,gV⟩:=h.sS A e B h1 h2
  have ly:k≠n:=fun ek=>by
   have :=hr e (by rw [show S.R=A++e::B from h1];simp)
   rw [hk,ek] at this
   exact this rfl
  exact ⟨k,hk,ls,by rw [ed k ly];exact jK,gV⟩
 ·have :=dI j hl
  rw [ed j this] at hl⊢
  exact h.wi.wd c j hj hl
 ·have :=dI j hl
  rw [ed j this] at hl⊢
  exact h.wi.wc j hl
 ·have :=dI j hl
  rw [ed j this] at hl⊢
  exact h.wt j hl e he
theorem ED {S:Sv} (h:S.Inv) {n:Nat} (hl:S.locked n=false):∀e∈S.R,e.r≠(n:Int)+1:=fun e he hr=>by
 obtain ⟨A,B,hR⟩:=List.append_of_mem he
 obtain ⟨k,hk,ls,jK,_⟩:=h.sS A e B hR (by omega)
 have ly:k=n:=by omega
 subst ly
 have h0:(S.rc k).lits[0]! =e.x:=by rw [jK];rfl
 have :S.locked k=true:=by
  unfold locked
  rw [h0,(kF h.ok he).2,hr]
  simp only [decide_true,Bool.and_true,decide_eq_true_eq]
  exact (fu h.ok _).2 ⟨e,he,rfl⟩
 rw [this] at hl
 cases hl
theorem wz:∀(D:List Nat) (S:Sv),S.Inv→D.Nodup→(∀n∈D,(∀e∈S.R,e.r≠(n:Int)+1)∧(S.rc n).iY=true)→
  (D.foldl bW S).Inv∧(D.foldl bW S).T=S.T∧(D.foldl bW S).H=S.H∧(D.foldl bW S).head=S.head∧∀F:(Nat→Bool)→Prop,S.cJ F→(D.foldl bW S).cJ F
 |[],S,h,_,_=>⟨h,rfl,rfl,rfl,fun F hk=>hk⟩
 |n::r,S,h,hn,hd=>by
  rw [eB] at hn
  obtain ⟨h1,h2⟩:=hd n aY
  obtain ⟨i1,i2,i3,i4,i5⟩:=wz r (S.bW n) (h.bW h1) hn.2 (fun m hm=>by
   obtain ⟨g1,g2⟩:=hd m (aP _ hm)
   refine ⟨g1,?_⟩
   have LF:¬(n=m∧n<S.list.length):=fun e=>hn.1 (e.1▸hm)
   rw [eK,if_neg LF]
   exact g2)
  exact ⟨i1,i2,i3,i4,fun F hk=>i5 F (hk.bW h2)⟩
theorem MF {S S':Sv} (h:S.Inv) (hr:Gd S S'):S'.Inv∧S'.T=S.T∧S'.H=S.H∧S'.head=S.head∧∀F:(Nat→Bool)→Prop,S.cJ F→S'.cJ F:=by
 obtain ⟨D,h1,h2,h3,rfl⟩:=hr
 exact wz D S h h1 (fun n hn=>by
  obtain ⟨_,k2,_,k4⟩:=zt (h2 n hn)
  exact ⟨ED h k4,k2⟩)
end Sv
end Go.Proofs.YtdgplmgfkliijaaGreat
