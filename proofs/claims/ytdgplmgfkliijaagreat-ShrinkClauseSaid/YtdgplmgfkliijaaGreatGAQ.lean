/- Parts of a proof. -/
import Derived.Test.YtdgplmgfkliijaaGreatGAP
import Derived.Shelf.SlicesE.Delete
set_option linter.unusedVariables false
set_option linter.unusedSimpArgs false
set_option maxHeartbeats 16000000
set_option maxRecDepth 100000
namespace Go.Proofs.YtdgplmgfkliijaaGreat
open Go.RowKit Go.Shelf Go.Sort
def EQ:Go.Shelf.Ren:=⟨fun |45=>20 |n=>n,fun |22=>28 |23=>22 |3=>3 |0=>0 |4=>4 |n=>n,fun |n=>n⟩
theorem U6:Go.Proofs.SlLaysE.n45 Tryz.prog EQ:={
 mixed:=by kernel_rfl
 f45:=⟨Tryz.f20.name,by decide,Tryz.func20.trans (congrArg some (by kernel_rfl))⟩
 t0:=Tryz.underlying0
 a0:=Tryz.isAgg0
 z0:=Tryz.sizeOf0
 v0:=Tryz.zeroValue0
 t3:=Tryz.underlying3
 a3:=Tryz.isAgg3
 z3:=Tryz.sizeOf3
 v3:=Tryz.zeroValue3
 t4:=Tryz.underlying4
 a4:=Tryz.isAgg4
 z4:=Tryz.sizeOf4
 v4:=Tryz.zeroValue4
 t22:=Tryz.underlying28
 a22:=Tryz.isAgg28
 z22:=Tryz.sizeOf28
 v22:=Tryz.zeroValue28
 a23:=Tryz.isAgg22
 z23:=Tryz.sizeOf22 }
theorem Ey {α:Type} [Inhabited α] (enc:α→Value) (t:TypeId) (w:World) (g q:Nat) (d:Array α) (cur:Array Value) (hg:w.heap[g]? =some (.cells cur t (0,0))):(putRow enc (Sort.ahead w q) g 0 d).heap[g]? =some (.cells (putCells enc 0 d cur) t (0,0)):=by
 unfold putRow mapBlock Sort.ahead
 simp only
 rw [Array.getElem?_modify,if_pos rfl,hg]
 rfl
theorem yH {α:Type} [Inhabited α] (enc:α→Value) (w:World) (g q:Nat) (d:Array α):Fr [g] w (putRow enc (Sort.ahead w q) g 0 d):=by
 unfold putRow mapBlock Sort.ahead
 refine ⟨rfl,rfl,rfl,by simp,fun k hk hn=> ?_⟩
 simp only
 rw [Array.getElem?_modify,if_neg (fun e=>hn (by simp [e]))]
theorem Id {α:Type} [Inhabited α] (enc:α→Value) {t:TypeId} {w:World} {g c:Nat} {hs:List α} (h:w.ownsRow 0 t 1 (.slice (some ⟨g,0,none⟩) hs.length c) hs.length (hs.map enc)) (i:Nat) (hi:i<hs.length) (z:α) (q:Nat):
  (putRow enc (Sort.ahead w q) g 0 (hs.take i++hs.drop (i+1)++List.replicate (i+1-i) z).toArray).ownsRow 0 t 1 (.slice (some ⟨g,0,none⟩) (hs.eraseIdx i).length c) (hs.eraseIdx i).length ((hs.eraseIdx i).map enc):=by
 have hlen:(hs.eraseIdx i).length=hs.length-1:=lT hi
 rcases h.2 with ⟨h1,_⟩ |⟨g',cap,cur,hv,hb,hg,hn,hm,Vt,ht⟩
 ·cases h1
 ·simp only [Value.slice.injEq,Option.some.injEq,Addr.mk.injEq,and_true,true_and] at hv
  obtain ⟨rfl,rfl⟩:=hv
  refine ⟨by simp, .inr ⟨g,c,_,rfl,bH _,Ey _ _ w g q _ cur hg,by omega,hm,by simp [putCells,Vt],?_⟩⟩
  apply List.ext_getElem?
  intro k
  rw [mz,hlen]
  have xE:cur.size=c:=by omega
  by_cases hk:k<hs.length-1
  ·rw [List.getElem?_take,if_pos hk]
   have XT:k<cur.size:=by omega
   have Fs:(hs.take i++hs.drop (i+1)++List.replicate (i+1-i) z).length=hs.length:=by simp;omega
   have hke:k<(hs.eraseIdx i).length:=by omega
   have he:hs.eraseIdx i=hs.take i++hs.drop (i+1):=List.eraseIdx_eq_take_drop_succ ..
   have h1:(hs.take i++hs.drop (i+1)++List.replicate (i+1-i) z)[k]? =some (hs.eraseIdx i)[k]:=by
    rw [←he,cW hke,af hke]
   generalize hs.take i++hs.drop (i+1)++List.replicate (i+1-i) z=D at h1 Fs⊢
   have hkD:k<D.length:=by omega
   simp [putCells,XT,hkD,hke]
   rw [(gK.1 h1).2]
  ·rw [List.getElem?_take,if_neg hk,kt (by rw [aq,hlen];omega)]
theorem yN {α:Type} [Inhabited α] (enc:α→Value) {t:TypeId} {w:World} {g c:Nat} {hs:List α} (h:w.ownsRow 0 t 1 (.slice (some ⟨g,0,none⟩) hs.length c) hs.length (hs.map enc)):Holds enc w g 0 hs.toArray∧hs.length≤c∧c≤9223372036854775807:=by
 refine ⟨fun j hj=> ?_,?_⟩
 ·have RG:j<hs.length:=by simpa using hj
  rw [cS]
  refine ⟨?_,World.ownsRow.frozenAt h j⟩
  rw [World.ownsRow.cellAt h _ (by omega)]
  simp only [aO,af RG,cu,List.getElem!_toArray,aa,ay]
 ·rcases h.2 with ⟨h1,_⟩ |⟨g',cap,cur,hv,hb,hg,hn,hm,Vt,ht⟩
  ·cases h1
  ·simp only [Value.slice.injEq,true_and] at hv
   obtain ⟨_,rfl⟩:=hv
   exact ⟨hn,hm⟩
theorem EP (w:World) (g c:Nat) (hs:List Ls) (h:Lrow w (some ⟨g,0,none⟩) c hs) (i:Nat) (hi:i<hs.length) (hl:hs.length≤2097152):
  Calls Tryz.prog 20 #[.slice (some ⟨g,0,none⟩) hs.length c, .int .i64 i, .int .i64 ((i:Int)+1)] w fun e w'=>e= .returned (.slice (some ⟨g,0,none⟩) (hs.eraseIdx i).length c)∧Lrow w' (some ⟨g,0,none⟩) c (hs.eraseIdx i)∧Fr [g] w w':=by
 have nq:hs.toArray.size=hs.length:=by simp
 obtain ⟨hH,vU,sJ⟩:=yN Ls.val h
 obtain ⟨i0,LN,vG,nc,A8⟩:=info_parts oo
 have mi:=AnyE.slices_Delete U6 Ls.val (fun _=>rfl) ⟨none,0,[]⟩ Tryz.zeroValue22 i0 LN nc g 0 c i (i+1) hs.toArray w hH (by omega) sJ (by omega) (by omega)
 change Calls Tryz.prog 20 _ _ _ at mi
 rw [nq] at mi
 refine (show Calls Tryz.prog 20 #[.slice (some ⟨g,0,none⟩) hs.length c, .int .i64 i, .int .i64 ((i:Int)+1)] w _ from mi).mono ?_
 rintro e w' ⟨rfl,q,rfl⟩
 exact ⟨by rw [lT hi,show i+1-i=1 by omega],Id Ls.val h i hi _ q,yH _ _ _ _ _⟩
def ER:Go.Shelf.Ren:=⟨fun |45=>10 |n=>n,fun |22=>22 |23=>3 |3=>3 |0=>0 |4=>4 |n=>n,fun |n=>n⟩
theorem U7:Go.Proofs.SlLaysE.n45 Tryz.prog ER:={
 mixed:=by kernel_rfl
 f45:=⟨Tryz.f10.name,by decide,Tryz.func10.trans (congrArg some (by kernel_rfl))⟩
 t0:=Tryz.underlying0
 a0:=Tryz.isAgg0
 z0:=Tryz.sizeOf0
 v0:=Tryz.zeroValue0
 t3:=Tryz.underlying3
 a3:=Tryz.isAgg3
 z3:=Tryz.sizeOf3
 v3:=Tryz.zeroValue3
 t4:=Tryz.underlying4
 a4:=Tryz.isAgg4
 z4:=Tryz.sizeOf4
 v4:=Tryz.zeroValue4
 t22:=Tryz.underlying22
 a22:=Tryz.isAgg22
 z22:=Tryz.sizeOf22
 v22:=Tryz.zeroValue22
 a23:=Tryz.isAgg3
 z23:=Tryz.sizeOf3 }
theorem EW (w:World) (g c:Nat) (xs:List Int) (h:Ints w (some ⟨g,0,none⟩) c xs) (i:Nat) (hi:i<xs.length) (hl:xs.length≤2097152):
  Calls Tryz.prog 10 #[.slice (some ⟨g,0,none⟩) xs.length c, .int .i64 i, .int .i64 ((i:Int)+1)] w fun e w'=>e= .returned (.slice (some ⟨g,0,none⟩) (xs.eraseIdx i).length c)∧Ints w' (some ⟨g,0,none⟩) c (xs.eraseIdx i)∧Fr [g] w w':=by
 have nq:xs.toArray.size=xs.length:=by simp
 obtain ⟨hH,vU,sJ⟩:=yN (Value.int .i64) h
 obtain ⟨i0,LN,vG,nc,A8⟩:=info_parts kc
 have mi:=AnyE.slices_Delete U7 (Value.int .i64) (fun _=>rfl) (0:Int) Tryz.zeroValue3 i0 LN nc g 0 c i (i+1) xs.toArray w hH (by omega) sJ (by omega) (by omega)
 change Calls Tryz.prog 10 _ _ _ at mi
 rw [nq] at mi
 refine (show Calls Tryz.prog 10 #[.slice (some ⟨g,0,none⟩) xs.length c, .int .i64 i, .int .i64 ((i:Int)+1)] w _ from mi).mono ?_
 rintro e w' ⟨rfl,q,rfl⟩
 exact ⟨by rw [lT hi,show i+1-i=1 by omega],Id (Value.int .i64) h i hi _ q,yH _ _ _ _ _⟩
theorem Cd (w:World) (A:Option Addr) (c:Nat) (ls:List Ls) (hr:iS w A ls) (hb:∀x∈ls,x.l.length≤1048576) (hn:ls.length≤1024):
  Calls Tryz.prog 19 #[.slice A ls.length c] w fun e w'=>∃A' c' hs,e= .returned (.slice A' hs.length c')∧NwLs w' w.heap.size A' c' hs∧hs.map (·.l)=ls.map (·.l)∧Fr [] w w':=by
 have KO:=ae (fun W (hW:Fr [] w W) A c l hr (hn:A=none→c=0) (hl:l.length<17592186044416)=>rE W A c l hr hn hl)
 have HR:=ae hr
 have Xq:=ae hb
 clear hr hb
 go_enter Tryz.func19,Tryz.ntmps19
 go_wp2_with fail
 go_loopg [3,8] ls.length (fun gk x3 x8 wr=>∃(k:Nat) (A':Option Addr) (c':Nat) (hs:List Ls),k+gk=ls.length∧x3= .slice A' hs.length c'∧x8= .int .i64 k∧al (NwLs wr w.heap.size A' c' hs)∧al (hs.map (·.l)=(ls.map (·.l)).take k)∧al (Fr [] w wr))
 case atStart=>exact ⟨0,none,0,[],by omega,rfl,rfl,NwLs.nil _ _,rfl,Fr.refl _ _⟩
 case round=>
  obtain ⟨k,A',c',hs,hk,rfl,rfl,HN,HE,HF⟩:=hrel
  have HK:=ae hk
  have ly:k≤ls.length:=by omega
  have DT:hs.length≤k:=by
   have :=HN.o.fQ HE.o
   rw [aV,aq] at this
   omega
  clear hk
  by_cases bM:k<ls.length
  ·obtain ⟨ab,o,B1,d1,l1,hA,he,vU,vN⟩:=(HR.o.keep HF.o).one bM
   subst hA
   have Ai:k<(ls.map (·.l)).length:=by rw [aq];exact bM
   have D8:=ae (lU (ls.map (·.l)) k Ai)
   have Bd:(ls.map (·.l))[k]! =l1:=by
    have :=he.o
    rw [aa,af bM] at this
    simp only [ay] at this
    rw [aa,aO,af bM]
    simp [this]
   rw [Bd] at D8
   have vQ:l1.length≤1048576:=by
    have :=Xq.o (ls[k]!) (bu bM)
    rw [he.o] at this
    exact this
   have Yf:=ae vN.2.1
   have Uh:=ae (KO.o wr HF.o B1 d1 l1 vN.1 (fun e=>(vN.2.2.2 e).2) (by omega))
   clear Ai Bd vN
   go_wp2_with fail
   refine Uh.o.mono ?_
   rintro e w3 ⟨B2,d2,rfl,ns,ot,bZ⟩
   have mw:=ae ns
   have jN:=ae ot
   have cH:=ae bZ
   clear ns ot bZ Uh
   obtain ⟨wb,eR⟩:∃W,w3.alloc (.cells #[.slice B2 l1.length d2] 22)=W:=⟨_,rfl⟩
   have fE:al (Fr [] w3 wb):=eR▸aN _ _
   have lR:=ae (mw.o.fr fE.o (fun _ _ hm=>by cases hm))
   have mR:wb.cell? ⟨w3.heap.size,0,none⟩=some (.slice B2 l1.length d2):=by
    have :=(At.new w3 22 #[.slice B2 l1.length d2]).cell 0
    rw [eR] at this
    simpa using this
   have xq:=ae mR
   have pQ:al (w.heap.size≤wr.heap.size):=HF.o.size
   clear mR
   go_wp2_with (at_builtin;(refine gq _ rfl _ _ rfl A' c' hs (HN.o.keep cH.o) fE.o (aF pQ.o (aF cH.o.size fE.o.size)) hs.length rfl rfl ⟨w3.heap.size,0,none⟩ 1 1 [⟨B2,d2,l1⟩] rfl rfl (fun j hj=>by (have :j=0:=by simpa using hj);subst this;rw [dJ];exact xq.o) (fun h hh=>by (have :=ah.1 hh);subst this;exact ⟨lR.o,Yf.o,vQ,fun k hk=>aF pQ.o (jN.o k hk)⟩) (by simp;omega) ?_;intro A4 c4 w4 tV eW;have um:=ae tV;have fM:=ae (((HF.o.aj cH.o).aj fE.o).trans eW (fun k hk=> .inr (HN.o.new k hk)));clear tV eW))
   clear eR
   go_roundg (gk-1)
   case measure=>have :=HK.o;omega
   case rel=>exact ⟨k+1,A4,c4,hs++[(⟨B2,d2,l1⟩:Ls)],by have :=HK.o;omega,by simp,by go_num,um.o,(by rw [bJ,HE.o,D8.o];rfl :_=_),fM.o⟩
  ·obtain rfl :k=ls.length:=by omega
   have dx:al (hs.map (·.l)=ls.map (·.l)):=by
    have :=HE.o
    rw [dn (by rw [aq];exact au _)] at this
    exact this
   clear HK HE
   go_wp2
   go_ret
   exact ⟨A',c',hs,rfl,HN.o,dx.o,HF.o⟩
end Go.Proofs.YtdgplmgfkliijaaGreat
namespace Go.Proofs.YtdgplmgfkliijaaGreat
open Go.RowKit Go.Shelf
def Bj:Pc:=⟨1,[],[⟨2,2,0⟩],[],[2],[],[],[]⟩
def D5:Qn:=⟨Bj,[],[],[],0,0,0⟩
theorem Kl:Valid Bj where
 m0:=by decide
 m1:=by decide
 i:=by decide
 l:=by decide
 n:=by decide
 bi:=fun j hj=>by
  have jB:j=0:=by
   have :j<1:=hj
   omega
  subst jB
  decide+kernel
 aG:=fun j hj=>absurd hj (aI _)
 own:=fun j hj=>by
  have h1:(cD Bj).length=1:=by decide+kernel
  have jB:j=0:=by omega
  subst jB
  decide+kernel
 o:=by decide
 b:=by decide
 v:=by decide
theorem WA:uY D5=0:=by
 unfold uY
 rw [if_neg (fun h=>h Kl),if_neg (by decide),if_neg (by decide),if_neg (by decide),if_neg (by decide)]
def D6 (m:Nat):List (List Int):=List.replicate m [-1]
theorem zk {m:Nat} (hm:m≤2):dz D5 (D6 m)=0:=by
 have h:m=0∨m=1∨m=2:=by omega
 unfold dz
 rcases h with rfl |rfl |rfl <;>rw [WA,if_neg (by decide),if_neg (by decide+kernel),if_neg (by decide+kernel)]
def UL (us:List Int) (S:Sv):Option (Sv×Int):=Sv.El 1099511627776 us 40 40 S
def YB (us:List Int) (S:Sv):Sv:=((UL us S).getD (S,0)).1
theorem AP {us:List Int} {S:Sv} (hu:decide (S.used<4611686018427387904)=true) (h:(UL us S).map (fun q=>decide (q.2=2))=some true):AY us (fun T=>T=S) (fun T=>T=YB us S) (fun _=>False):=by
 rintro _ rfl
 obtain ⟨p,hp,hd⟩:=Option.map_eq_some_iff.1 h
 refine ⟨of_decide_eq_true hu,false,(fun h=>by cases h),40,40,_,Sv.BO hp,fun S2 r2 h2=> ?_⟩
 have T9:(S2,r2)=p:=h2
 have hr:r2=2:=by
  rw [←T9] at hd
  exact of_decide_eq_true hd
 rw [if_pos hr]
 show S2=YB us _
 unfold YB
 rw [hp,←T9]
 rfl
theorem WE {us:List Int} {S:Sv} (hu:decide (S.used<4611686018427387904)=true) (h:(UL us S).map (fun q=>decide (q.2=1))=some true):AY us (fun T=>T=S) (fun _=>False) (fun _=>True):=by
 rintro _ rfl
 obtain ⟨p,hp,hd⟩:=Option.map_eq_some_iff.1 h
 refine ⟨of_decide_eq_true hu,false,(fun h=>by cases h),40,40,_,Sv.BO hp,fun S2 r2 h2=> ?_⟩
 have T9:(S2,r2)=p:=h2
 have hr:r2=1:=by
  rw [←T9] at hd
  exact of_decide_eq_true hd
 rw [hr,if_neg (by decide)]
 trivial
def us1:List Int:=([(-1:Int)].map (iN Bj 0)).map fun x=> -x
def us2:List Int:=([(-1:Int)].map (iN Bj 1)).map fun x=> -x
def us3:List Int:=[dv 0 2]
def Dv (S:Sv):List (List Int)→Sv
 |[]=>S
 |c::r=>Dv (S.WG c).1 r
theorem rL:∀(ls:List (List Int)) (S:Sv),S.cR ls=Dv S ls
 |[],S=>rfl
 |c::r,S=>by
  show (S.fl c).1.cR r=_
  rw [Sv.Sn]
  exact rL r _
def bvF:Sv:=Dv (Sv.new (eZ Bj 2)) (qi Bj 1)
def bvS (m:Nat):Sv:=Dv (Dv (Sv.new (eZ Bj 2)) (iP Bj [] 0++og Bj 0 1)) (uA Bj (D6 m))
theorem WC:Zp Bj=bvF:=rL _ _
theorem OR (m:Nat):Tw Bj [] (D6 m)=bvS m:=by
 show ((Sv.new (eZ Bj 2)).cR (iP Bj [] 0++og Bj 0 1)).cR (uA Bj (D6 m))=_
 rw [rL,rL]
 rfl
def s1:Nat→Sv
 |0=>bvF
 |k+1=>YB us1 (s1 k)
def s2 (m:Nat):Nat→Sv
 |0=>bvS m
 |k+1=>YB us2 (s2 m k)
theorem YG {k:Nat} (h:k<2):decide ((s1 k).used<4611686018427387904)=true∧(UL us1 (s1 k)).map (fun q=>decide (q.2=2))=some true:=by
 have h:k=0∨k=1:=by omega
 rcases h with rfl |rfl
 ·exact ⟨by decide+kernel,by decide+kernel⟩
 ·exact ⟨by decide+kernel,by decide+kernel⟩
theorem YF {m k:Nat} (hm:m≤2) (h:k<m):decide ((s2 m k).used<4611686018427387904)=true∧(UL us2 (s2 m k)).map (fun q=>decide (q.2=2))=some true:=by
 have h:(m=1∧k=0)∨(m=2∧k=0)∨(m=2∧k=1):=by omega
 rcases h with ⟨rfl,rfl⟩ |⟨rfl,rfl⟩ |⟨rfl,rfl⟩
 ·exact ⟨by decide+kernel,by decide+kernel⟩
 ·exact ⟨by decide+kernel,by decide+kernel⟩
 ·exact ⟨by decide+kernel,by decide+kernel⟩
theorem YE {m:Nat} (hm:m≤2) (h:0<m):decide ((s2 m m).used<4611686018427387904)=true∧(UL us3 (s2 m m)).map (fun q=>decide (q.2=2))=some true:=by
 have h:m=1∨m=2:=by omega
 rcases h with rfl |rfl
 ·exact ⟨by decide+kernel,by decide+kernel⟩
 ·exact ⟨by decide+kernel,by decide+kernel⟩
theorem YH:decide ((s2 0 0).used<4611686018427387904)=true∧(UL us3 (s2 0 0)).map (fun q=>decide (q.2=1))=some true:=⟨by decide+kernel,by decide+kernel⟩
theorem Dr (W:World) (H:Qh) (hq:m8 W H D5) (A:Option Addr) (c:Nat) (hs:List Ls) (hr:iS W A hs) {m:Nat} (hm:m≤2) (he:hs.map (·.l)=D6 m):
  Calls Tryz.prog 18 #[jv H D5, .slice A hs.length c] W fun e w'=>e= .returned (.int .i64 (if m=0 then 81 else 0))∧Fr [] W w':=by
 have hn:hs.length=m:=by
  have :=congrArg List.length he
  rwa [aq,D6,bh] at this
 have zb:∀k,k<hs.length→(hs[k]!).l=[-1]:=fun k hk=>by
  have h1:(hs[k]!).l∈hs.map (·.l):=az.2 ⟨_,bu hk,rfl⟩
  rw [he] at h1
  exact List.eq_of_mem_replicate h1
 rcases Nat.eq_zero_or_pos m with rfl |hp
 ·obtain rfl :hs=[]:=aJ hn
  have hc:=na W H D5 hq A c [] hr (zk (bH _)) (by decide) (fun _ _=>True) (fun _ S=>S=s2 0 0) (fun _=>False) (fun _=>False) (fun _=>False) (fun _=>True) trivial (fun k hk=>absurd hk (aI _)) (OR 0) (fun k hk=>absurd hk (aI _)) (WE YH.1 YH.2)
  refine hc.mono ?_
  rintro e w' ⟨hf,⟨-,S,hS⟩ |⟨rfl,h⟩⟩
  ·exact hS.elim
  ·exact ⟨rfl,hf⟩
 ·have hc:=na W H D5 hq A c hs hr (by rw [he];exact zk hm) (by omega) (fun k S=>S=s1 k) (fun k S=>S=s2 m k) (fun _=>False) (fun _=>False) (fun _=>True) (fun _=>False) WC
   (fun k hk=>by rw [zb k hk];exact AP (YG (by omega)).1 (YG (by omega)).2) (by rw [he];exact OR m)
   (fun k hk=>by rw [zb k hk];exact AP (YF hm (by omega)).1 (YF hm (by omega)).2)
   (by
    rw [hn]
    intro S hS
    obtain ⟨h1,r,K,D,C,Q,h2,h3⟩:=AP (YE hm hp).1 (YE hm hp).2 S hS
    refine ⟨h1,r,K,D,C,Q,h2,fun S' r' h'=> ?_⟩
    have :=h3 S' r' h'
    by_cases e:r'=2
    ·rw [if_pos e];trivial
    ·rw [if_neg e] at this⊢;exact this)
  rw [if_neg (by omega)]
  refine hc.mono ?_
  rintro e w' ⟨hf,⟨rfl,-⟩ |⟨-,⟨S,hS⟩ |⟨S,hS⟩ |⟨S,hS⟩⟩⟩
  ·exact ⟨rfl,hf⟩
  ·exact hS.elim
  ·exact hS.elim
  ·exact hS.elim
def bvH (a b:Nat):Qh:=⟨⟨none,0,some ⟨a,0,none⟩,1,none,0,some ⟨b,0,none⟩,1,none,0,none,0,none,0⟩,none,0,none,0,none,0⟩
theorem WB {w:World} {a b:Nat} (ha:At w a 40 #[.int .i64 2, .int .i64 2, .int .i64 0]) (hb:At w b 3 #[.int .i64 2]):m8 w (bvH a b) D5:=by
 refine ⟨⟨fun h=>absurd h (by decide),?_,fun h=>absurd h (by decide),?_,fun h=>absurd h (by decide),fun h=>absurd h (by decide),fun h=>absurd h (by decide),by decide,by decide,by decide,by decide,by decide,by decide,by decide,⟨by decide,by decide⟩,?_,?_,?_,?_,?_,?_,?_⟩,iS.MQ _ _,iS.MQ _ _,iS.MQ _ _,by decide,by decide,by decide,⟨by decide,by decide⟩,⟨by decide,by decide⟩,⟨by decide,by decide⟩⟩
 ·intro _
  refine ⟨_,_,rfl,fun j hj=> ?_⟩
  have jB:j=0:=by
   have :j<1:=hj
   omega
  subst jB
  exact ⟨ha.cell 0,ha.cell 1,ha.cell 2⟩
 ·intro _
  refine ⟨_,_,rfl,fun j hj=> ?_⟩
  have jB:j=0:=by
   have :j<1:=hj
   omega
  subst jB
  exact hb.cell 0
 ·exact fun j hj=>absurd hj (aI _)
 ·intro j hj
  have jB:j=0:=by
   have :j<1:=hj
   omega
  subst jB
  exact ⟨⟨by decide,by decide⟩,⟨by decide,by decide⟩,by decide,by decide⟩
 ·exact fun j hj=>absurd hj (aI _)
 ·intro j hj
  have jB:j=0:=by
   have :j<1:=hj
   omega
  subst jB
  exact ⟨by decide,by decide⟩
 ·exact fun j hj=>absurd hj (aI _)
 ·exact fun j hj=>absurd hj (aI _)
 ·exact fun j hj=>absurd hj (aI _)
theorem OS {m:Nat} {hs:List Ls} (h:hs.map (·.l)=D6 m):(hs.eraseIdx 0).map (·.l)=D6 (m-1):=by
 rw [List.eraseIdx_zero,List.map_tail,h]
 unfold D6
 rw [List.tail_replicate]
theorem mZ {m:Nat} {hs:List Ls} (h:hs.map (·.l)=D6 m):hs.length=m:=by
 have :=congrArg List.length h
 rwa [aq,D6,bh] at this
theorem Ep (w:World) (H:Qh) (hq:m8 w H D5) (A:Option Addr) (c:Nat) (hs:List Ls) (hr:iS w A hs) (he:hs.map (·.l)=D6 2):
  Calls Tryz.prog 8 #[jv H D5, .slice A 2 c] w fun e w'=>(∃A' c',e= .returned (.tuple #[.slice A' 1 c', .int .i64 0]))∧Fr [] w w':=by
 obtain ⟨w1,dO⟩:∃W,w.alloc (.cells (jR H D5) 30)=W:=⟨_,rfl⟩
 have dy:al (Fr [] w w1):=dO▸aN _ _
 have lQ:al (At w1 w.heap.size 30 (jR H D5)):=dO▸At.new _ _ _
 have hl:=mZ he
 have KI:=ae (fun W (hW:Fr [] w W) A c hs (hr:iS W A hs) m (hm:m≤2) (he:hs.map (·.l)=D6 m)=>Dr W H (hq.keep hW) A c hs hr hm he)
 have K0:=ae (Dr w1 H (hq.keep dy.o) A c hs (hr.keep dy.o) (au 2) he)
 have KL:=ae (fun W (hW:Fr [] w W)=>Cd W A c hs (hr.keep hW) (fun x hx=>by
  have h1:x.l∈hs.map (·.l):=az.2 ⟨_,hx,rfl⟩
  rw [he] at h1
  rw [List.eq_of_mem_replicate h1]
  decide) (by omega))
 have HE:=ae he
 rw [hl,if_neg (by decide)] at K0
 simp only [hl] at KL
 have HQ:=ae (fun W (hW:At W w.heap.size 30 (jR H D5))=>gD hW)
 clear hq hr he hl
 simp only [jv,jR] at K0 KI dO HQ⊢
 go_enter Tryz.func8,Tryz.ntmps8
 go_upto_region 1 with fail
 clear dO
 obtain ⟨q0,q1,q2,q3,q4,q5,q6,q7,q8,q9,jo,jI,jH,jG⟩:=HQ.o w1 lQ.o
 go_wp2_with fail
 refine K0.o.mono ?_
 clear K0 q0 q1 q2 q3 q4 q5 q6 q7 q8 q9 jo jI jH jG
 rintro e w2 ⟨rfl,bZ⟩
 have cH:=ae (dy.o.aj bZ)
 have oH:=ae (lQ.o.keep bZ)
 have Yc:=ae (KL.o w2 cH.o)
 clear bZ dy lQ KL
 go_wp2_with fail
 refine Yc.o.mono ?_
 clear Yc
 rintro e w3 ⟨A3,c3,PW,rfl,CF,XS,dD⟩
 have cZ:=ae (cH.o.aj dD)
 have AV:=ae (oH.o.keep dD)
 have mv:=ae CF
 have Us:=ae XS
 clear CF XS dD cH oH
 have Ui:al (∀W,Fr [] w W→∀A' c' (iW:List Ls) m,0<m→m≤2→iS W A' iW→(A'=none→c'=0)→iW.map (·.l)=D6 m→Calls Tryz.prog 12 #[.slice A' iW.length c'] W fun e w'=>∃g c2,e= .returned (.slice (some ⟨g,0,none⟩) iW.length c2)∧Fr [] W w'∧
   Calls Tryz.prog 20 #[.slice (some ⟨g,0,none⟩) iW.length c2, .int .i64 0, .int .i64 1] w' fun e w2=>∃jz:List Ls,e= .returned (.slice (some ⟨g,0,none⟩) jz.length c2)∧jz.map (·.l)=D6 (m-1)∧iS w2 (some ⟨g,0,none⟩) jz∧Fr [] W w2):=fun W hW A' c' iW m h0 hm hr hn he=>by
  have hlen:=mZ he
  refine (rD W A' c' iW hr hn (by omega)).mono ?_
  rintro e w' ⟨A2,c2,rfl,fJ,jf,hf⟩
  rcases fJ.form with ⟨_,_,h3⟩ |⟨g,rfl,hg1,eY⟩
  ·rw [h3] at hlen
   simp at hlen
   omega
  ·refine ⟨g,c2,rfl,hf,?_⟩
   have hgW:=jf g (by simp [ap])
   have hd:=EP w' g c2 iW fJ 0 (by omega) (by omega)
   refine (show Calls Tryz.prog 20 #[.slice (some ⟨g,0,none⟩) iW.length c2, .int .i64 0, .int .i64 1] w' _ from hd).mono ?_
   rintro e w2 ⟨rfl,ZR,bZ⟩
   have hfW:Fr [] W w2:=hf.trans bZ (fun k hk=> .inr (by rw [ah.1 hk];exact hgW))
   refine ⟨_,rfl,OS he,ZR.Ew (fun j hj=> ?_),hfW⟩
   have hle:(iW.eraseIdx 0).length=iW.length-1:=lT (by omega)
   have h1:(iW.eraseIdx 0)[j]! =iW[j+1]! :=by
    rw [List.eraseIdx_zero]
    simp [aa,List.getElem?_tail]
   rw [h1]
   exact (hr.2 (j+1) (by omega)).keep hfW
 go_wp2_with fail
 go_loopg [7,8] 2 (fun gk x7 x8 wr=>∃(A':Option Addr) (c':Nat) (iW:List Ls) (i m:Nat),((gk=2∧i=0∧m=2)∨(gk=1∧i=0∧m=1)∨(gk=0∧i=1∧m=1))∧x7= .slice A' m c'∧x8= .int .i64 (i:Int)∧(A'=none→c'=0)∧al (iS wr A' iW)∧al (iW.map (·.l)=D6 m)∧al (Fr [] w wr)∧al (At wr w.heap.size 30 (jR H D5)))
 case atStart=>
  have h3:=Us.o.trans HE.o
  refine ⟨A3,c3,PW,0,2, .inl ⟨rfl,rfl,rfl⟩,by rw [mZ h3],rfl,fun e=> ?_,mv.o.Ew,h3,cZ,AV⟩
  rcases mv.o.row.2 with ⟨hv,_⟩ |⟨g,cap,cur,hv,_⟩
  ·simp only [Value.slice.injEq] at hv
   exact hv.2.2
  ·simp only [Value.slice.injEq] at hv
   rw [e] at hv
   cases hv.1
 case round=>
  obtain ⟨A',c',iW,i,m,CT,rfl,rfl,hn,HR,HM,HF,Xa⟩:=hrel
  rcases CT with ⟨rfl,rfl,rfl⟩ |⟨rfl,rfl,rfl⟩ |⟨rfl,rfl,rfl⟩
  ·have hlen:=mZ HM.o
   have KC:=ae (Ui.o wr HF.o A' c' iW 2 (by decide) (by decide) HR.o hn HM.o)
   rw [hlen] at KC
   clear hlen Ui hn HR HM
   go_wp2_with fail
   refine KC.o.mono ?_
   clear KC
   rintro e w4 ⟨g,c2,rfl,-,hd⟩
   have KD:=ae hd
   clear hd
   go_wp2_with fail
   refine KD.o.mono ?_
   clear KD
   rintro e w5 ⟨jz,rfl,pF,jU,eu⟩
   have kN:=ae (HF.o.aj eu)
   have Ix:=ae (Xa.o.keep eu)
   have DF:=ae jU
   have HM5:=ae pF
   have Iv:=ae (KI.o w5 kN.o _ c2 jz jU 1 (by decide) pF)
   have hlen:=mZ pF
   rw [hlen] at Iv⊢
   rw [if_neg (by decide)] at Iv
   clear eu HF Xa jU pF hlen KI
   obtain ⟨q0,q1,q2,q3,q4,q5,q6,q7,q8,q9,jo,jI,jH,jG⟩:=HQ.o w5 Ix.o
   go_wp2_with fail
   refine Iv.o.mono ?_
   clear Iv q0 q1 q2 q3 q4 q5 q6 q7 q8 q9 jo jI jH jG
   rintro e w6 ⟨rfl,fN⟩
   have ik:=ae (kN.o.aj fN)
   have K9:=ae (Ix.o.keep fN)
   have K8:=ae (DF.o.keep fN)
   clear fN
   go_wp2
   go_roundg 1
   case measure=>decide
   case rel=>exact ⟨_,c2,jz,0,1, .inr (.inl ⟨rfl,rfl,rfl⟩),rfl,rfl,(fun e=>by cases e),K8,HM5,ik,K9⟩
  ·have hlen:=mZ HM.o
   have KC:=ae (Ui.o wr HF.o A' c' iW 1 (by decide) (by decide) HR.o hn HM.o)
   rw [hlen] at KC
   clear hlen Ui
   go_wp2_with fail
   refine KC.o.mono ?_
   clear KC
   rintro e w4 ⟨g,c2,rfl,-,hd⟩
   have KD:=ae hd
   clear hd
   go_wp2_with fail
   refine KD.o.mono ?_
   clear KD
   rintro e w5 ⟨jz,rfl,pF,jU,eu⟩
   have aaL:=eu
   have kN:=ae (HF.o.aj eu)
   have Ix:=ae (Xa.o.keep eu)
   have DF:=ae jU
   have HM5:=ae pF
   have Iv:=ae (KI.o w5 kN.o _ c2 jz jU 0 (by decide) pF)
   have hlen:=mZ pF
   rw [hlen] at Iv⊢
   rw [if_pos (by decide)] at Iv
   clear eu HF Xa jU pF hlen KI
   obtain ⟨q0,q1,q2,q3,q4,q5,q6,q7,q8,q9,jo,jI,jH,jG⟩:=HQ.o w5 Ix.o
   go_wp2_with fail
   refine Iv.o.mono ?_
   clear Iv q0 q1 q2 q3 q4 q5 q6 q7 q8 q9 jo jI jH jG
   rintro e w6 ⟨rfl,fN⟩
   have ik:=ae (kN.o.aj fN)
   have K9:=ae (Ix.o.keep fN)
   have K8:=ae (HR.o.keep (aaL.aj fN))
   clear fN aaL
   go_wp2
   go_roundg 0
   case measure=>decide
   case rel=>exact ⟨A',c',iW,1,1, .inr (.inr ⟨rfl,rfl,rfl⟩),rfl,rfl,hn,K8,HM,ik,K9⟩
  ·clear Ui KI
   go_wp2
   go_ret2
   exact ⟨⟨A',c',rfl⟩,HF.o⟩
theorem OQ (w:World):iS (((w.alloc (.cells #[.int .i64 (-1)] 3)).alloc (.cells #[.int .i64 (-1)] 3)).alloc (.cells #[.slice (some ⟨w.heap.size,0,none⟩) 1 1, .slice (some ⟨w.heap.size+1,0,none⟩) 1 1] 22)) (some ⟨w.heap.size+1+1,0,none⟩) [⟨some ⟨w.heap.size,0,none⟩,1,[-1]⟩,⟨some ⟨w.heap.size+1,0,none⟩,1,[-1]⟩]:=by
 obtain ⟨w1,dO⟩:∃W,w.alloc (.cells #[.int .i64 (-1)] 3)=W:=⟨_,rfl⟩
 obtain ⟨w2,mD⟩:∃W,w1.alloc (.cells #[.int .i64 (-1)] 3)=W:=⟨_,rfl⟩
 have s1:w1.heap.size=w.heap.size+1:=by rw [←dO];simp
 have s2:w2.heap.size=w.heap.size+1+1:=by rw [←mD];simp [s1]
 have h1:At w1 w.heap.size 3 #[.int .i64 (-1)]:=dO▸At.new _ _ _
 have h2:At w2 (w.heap.size+1) 3 #[.int .i64 (-1)]:=by
  rw [←s1]
  exact mD▸At.new _ _ _
 have J6:At w2 w.heap.size 3 #[.int .i64 (-1)]:=h1.keep (mD▸aN _ _)
 rw [dO,mD,←s2]
 obtain ⟨w3,rf⟩:∃W,w2.alloc (.cells #[.slice (some ⟨w.heap.size,0,none⟩) 1 1, .slice (some ⟨w.heap.size+1,0,none⟩) 1 1] 22)=W:=⟨_,rfl⟩
 have hf:Fr [] w2 w3:=rf▸aN _ _
 have h3:At w3 w2.heap.size 22 #[.slice (some ⟨w.heap.size,0,none⟩) 1 1, .slice (some ⟨w.heap.size+1,0,none⟩) 1 1]:=rf▸At.new _ _ _
 rw [rf]
 have ok:∀g,At w2 g 3 #[.int .i64 (-1)]→uh w3 ⟨some ⟨g,0,none⟩,1,[-1]⟩:=fun g hg=>⟨fun _=>⟨_,_,rfl,fun j hj=>by
  have jB:j=0:=by simpa using hj
  subst jB
  exact (hg.keep hf).cell 0⟩,fun j hj=>by
  have jB:j=0:=by simpa using hj
  subst jB
  show -9223372036854775808≤(-1:Int)∧(-1:Int)≤9223372036854775807
  exact ⟨by decide,by decide⟩,(by show 1≤17592186044416;decide),fun h=>by cases h⟩
 refine ⟨fun _=>⟨_,_,rfl,fun j hj=> ?_⟩,fun j hj=> ?_⟩
 ·have jB:j=0∨j=1:=by simp at hj;omega
  rcases jB with rfl |rfl
  ·exact h3.cell 0
  ·exact h3.cell 1
 ·have jB:j=0∨j=1:=by simp at hj;omega
  rcases jB with rfl |rfl
  ·exact ok _ J6
  ·exact ok _ h2
theorem yk (w:World):Calls Tryz.prog 4 #[] w fun e w'=>e= .returned (.bool true)∧Fr [] w w':=by
 obtain ⟨w1,dO⟩:∃W,w.alloc (.cells #[.int .i64 2, .int .i64 2, .int .i64 0] 40)=W:=⟨_,rfl⟩
 obtain ⟨w2,mD⟩:∃W,w1.alloc (.cells #[.int .i64 2] 3)=W:=⟨_,rfl⟩
 obtain ⟨w3,rf⟩:∃W,w2.alloc (.cells (jR (bvH w.heap.size w1.heap.size) D5) 30)=W:=⟨_,rfl⟩
 have h1:At w1 w.heap.size 40 #[.int .i64 2, .int .i64 2, .int .i64 0]:=dO▸At.new _ _ _
 have h2:At w2 w1.heap.size 3 #[.int .i64 2]:=mD▸At.new _ _ _
 have dD:Fr [] w2 w3:=rf▸aN _ _
 have cZ:al (Fr [] w w3):=(dO▸aN _ _:Fr [] w w1).aj ((mD▸aN _ _:Fr [] w1 w2).aj dD)
 have HA:al (At w3 w2.heap.size 30 (jR (bvH w.heap.size w1.heap.size) D5)):=rf▸At.new _ _ _
 have HQ:=(WB (h1.keep (mD▸aN _ _:Fr [] w1 w2)) h2).keep dD
 have fN:Fr [] w3 (((w3.alloc (.cells #[.int .i64 (-1)] 3)).alloc (.cells #[.int .i64 (-1)] 3)).alloc (.cells #[.slice (some ⟨w3.heap.size,0,none⟩) 1 1, .slice (some ⟨w3.heap.size+1,0,none⟩) 1 1] 22)):=(aN _ _).aj ((aN _ _).aj (aN _ _))
 have KS:=ae (Ep _ _ (HQ.keep fN) _ 2 _ (OQ w3) rfl)
 have ik:=ae (cZ.o.aj fN)
 have HC:=ae (gD HA.o)
 simp only [jv,jR,bvH,D5,Bj,List.length_nil,bO,cS] at KS HC rf
 have HW3:=ae rf
 clear h1 h2 dD HQ fN cZ HA rf
 go_enter Tryz.func4,Tryz.ntmps4
 go_upto_region 2 with fail
 rw [HW3.o]
 clear dO mD HW3
 obtain ⟨q0,q1,q2,q3,q4,q5,q6,q7,q8,q9,jo,jI,jH,jG⟩:=HC.o
 go_wp2_with fail
 refine KS.o.mono ?_
 clear KS q0 q1 q2 q3 q4 q5 q6 q7 q8 q9 jo jI jH jG HC
 rintro e w7 ⟨⟨A',c',rfl⟩,gG⟩
 have rW:=ae (ik.o.aj gG)
 clear gG ik
 go_wp2
 go_ret
 exact ⟨rfl,rW.o⟩
end Go.Proofs.YtdgplmgfkliijaaGreat
namespace Go.Proofs.YtdgplmgfkliijaaGreat
open Go.RowKit
def qaf (P:List Int→Bool):Nat→Nat→List Int→List Int
 |0,_,l=>l
 |f+1,i,l=>if i<l.length then (if P (l.eraseIdx i)=true then qaf P f i (l.eraseIdx i) else qaf P f (i+1) l) else l
theorem er2:∀(l:List Int) (j i:Nat),j<i→((l.eraseIdx i).eraseIdx j).Sublist (l.eraseIdx j)
 |[],j,i,_=>by simp
 |a::l,j,0,h=>absurd h (aI _)
 |a::l,0,i+1,_=>by
  rw [List.eraseIdx_cons_succ,List.eraseIdx_cons_zero,List.eraseIdx_cons_zero]
  exact List.eraseIdx_sublist l i
 |a::l,j+1,i+1,h=>by
  rw [List.eraseIdx_cons_succ,List.eraseIdx_cons_succ,List.eraseIdx_cons_succ]
  exact (er2 l j i (by omega)).cons_cons a
theorem sf {P:List Int→Bool} {x:List Int} (hm:∀a b:List Int,a.Sublist b→b.Sublist x→P a=true→P b=true):∀(f i:Nat) (l:List Int),l.length≤f+i→l.Sublist x→P l=true→(∀j,j<i→j<l.length→P (l.eraseIdx j)=false)→
  (qaf P f i l).Sublist x∧P (qaf P f i l)=true∧∀j,j<(qaf P f i l).length→P ((qaf P f i l).eraseIdx j)=false
 |0,i,l,h1,h2,h3,h4=>⟨h2,h3,fun j hj=>by
  have hj:j<l.length:=hj
  exact h4 j (by omega) hj⟩
 |f+1,i,l,h1,h2,h3,h4=>by
  rw [qaf]
  by_cases hi:i<l.length
  ·rw [if_pos hi]
   by_cases hp:P (l.eraseIdx i)=true
   ·rw [if_pos hp]
    have hlen:(l.eraseIdx i).length=l.length-1:=lT hi
    refine sf hm f i _ (by omega) ((List.eraseIdx_sublist l i).trans h2) hp fun j hj DW=> ?_
    cases hq:P ((l.eraseIdx i).eraseIdx j) with
    |false=>rfl
    |true=>
     have :=hm _ _ (er2 l j i hj) ((List.eraseIdx_sublist l j).trans h2) hq
     rw [h4 j hj (by omega)] at this
     cases this
   ·rw [if_neg hp]
    have hp:P (l.eraseIdx i)=false:=by simpa using hp
    refine sf hm f (i+1) l (by omega) h2 h3 fun j hj DW=> ?_
    by_cases e:j=i
    ·rw [e];exact hp
    ·exact h4 j (by omega) DW
  ·rw [if_neg hi]
   exact ⟨h2,h3,fun j hj=>h4 j (by omega) hj⟩
noncomputable def kT (q:Qn) (ls:List (List Int)) (a:List Int):Bool:=decide (dz q (ls++[a])=0)&&jV q.C ls a
theorem Sk {v:Int} {a b:List Int} (h:a.Sublist b) (hb:fK v b=0):fK v a=0:=by
 unfold fK at hb⊢
 split at hb
 ·cases hb
 ·rename_i h1
  split at hb
  ·cases hb
  ·rename_i h2
   rw [if_neg (by have :=h.length_le;omega),if_neg fun h3=> ?_]
   obtain ⟨y,hy,h4⟩:=bI.1 h3
   exact h2 (bI.2 ⟨y,h.subset hy,h4⟩)
theorem yF {q:Qn} {ls:List (List Int)} {a b:List Int} (h:a.Sublist b) (hb:dz q (ls++[b])=0):dz q (ls++[a])=0:=by
 unfold dz at hb⊢
 simp only [ai,bO,List.length_nil] at hb⊢
 split at hb
 ·exact absurd hb (by assumption)
 ·rename_i h1
  rw [if_neg h1]
  split at hb
  ·cases hb
  ·rename_i h2
   rw [if_neg h2]
   split at hb
   ·cases hb
   ·rename_i h3
    rw [if_neg fun h4=> ?_]
    refine h3 (bI.2 ?_)
    obtain ⟨y,hy,h5⟩:=bI.1 h4
    rcases ag.1 hy with h6 |h6
    ·exact ⟨y,ak _ h6,h5⟩
    ·refine ⟨b,aM _ (ah.2 rfl),?_⟩
     rw [ah.1 h6] at h5
     unfold yA at h5⊢
     cases h7:(fK (q.C.bi.length:Int) b==0) with
     |false=>rfl
     |true=>
      rw [Sk h (by simpa using h7)] at h5
      cases h5
theorem JL {q:Qn} {ls:List (List Int)} {x:List Int} (hx:dz q (ls++[x])=0) (a b:List Int) (h:a.Sublist b) (h2:b.Sublist x) (ha:kT q ls a=true):kT q ls b=true:=by
 unfold kT at ha⊢
 rw [aD] at ha⊢
 refine ⟨by simpa using yF h2 hx,?_⟩
 unfold jV at ha⊢
 rw [kO] at ha⊢
 intro s hs
 have :=ha.2 s hs
 rw [Bool.or_eq_true] at this⊢
 refine this.imp id fun h3=> ?_
 obtain ⟨y,hy,h4⟩:=bI.1 h3
 exact bI.2 ⟨y,h.subset hy,h4⟩
noncomputable def se (q:Qn) (ls:List (List Int)) (x:List Int):List Int:=qaf (kT q ls) x.length 0 x
theorem Qs {q:Qn} {ls:List (List Int)} {x:List Int} (h:kT q ls x=true):(se q ls x).Sublist x∧kT q ls (se q ls x)=true∧∀j,j<(se q ls x).length→kT q ls ((se q ls x).eraseIdx j)=false:=by
 have hx:dz q (ls++[x])=0:=by
  unfold kT at h
  rw [aD] at h
  simpa using h.1
 exact sf (JL hx) x.length 0 x (by omega) (List.Sublist.refl _) h fun j hj=>absurd hj (aI _)
end Go.Proofs.YtdgplmgfkliijaaGreat
namespace Go.Proofs.YtdgplmgfkliijaaGreat
open Go.RowKit Go.Shelf
theorem tk (w:World) (H:Qh) (q:Qn) (h:m8 w H q) (A:Option Addr) (c:Nat) (hs:List Ls) (hr:iS w A hs) (hn:A=none→c=0) (hl:hs.length≤10) (x:Ls) (hx:uh w x):
  Calls Tryz.prog 6 #[jv H q, .slice A hs.length c,x.val] w fun e w'=>e= .returned (.tuple #[.bool (kT q (hs.map (·.l)) x.l), .int .i64 (dz q (hs.map (·.l)++[x.l]))])∧Fr [] w w':=by
 refine (CD w H q h A c hs hr hn (by omega) x hx).mono ?_
 rintro e w' ⟨hf,h1⟩
 have hlen:(hs.map (·.l)).length≤10:=by rw [aq];exact hl
 unfold kT
 rcases h1 with ⟨h0,rfl⟩ |⟨h0,b,rfl,hb⟩
 ·rw [decide_eq_false h0]
  exact ⟨rfl,hf⟩
 ·rw [h0,hb hlen]
  exact ⟨rfl,hf⟩
theorem Cm (W:World) (A:Option Addr) (c:Nat) (xs:List Int) (h:Rd W A xs) (hn:A=none→c=0) (i:Nat) (hi:i<xs.length) (hl:xs.length≤1024):
  Calls Tryz.prog 9 #[.slice A xs.length c] W fun e w'=>∃g c2,e= .returned (.slice (some ⟨g,0,none⟩) xs.length c2)∧
   Calls Tryz.prog 10 #[.slice (some ⟨g,0,none⟩) xs.length c2, .int .i64 i, .int .i64 ((i:Int)+1)] w' fun e w2=>e= .returned (.slice (some ⟨g,0,none⟩) (xs.eraseIdx i).length c2)∧Ints w2 (some ⟨g,0,none⟩) c2 (xs.eraseIdx i)∧Fr [] W w2:=by
 refine (rE W A c xs h hn (by omega)).mono ?_
 rintro e w' ⟨A2,c2,rfl,ns,jf,hf⟩
 obtain ⟨g,rfl,hg⟩:=ns.pos hi
 have hgW:=jf g (by simp [ap])
 refine ⟨g,c2,rfl,(EW w' g c2 xs ns i hi (by omega)).mono ?_⟩
 rintro e w2 ⟨rfl,h3,bZ⟩
 exact ⟨rfl,h3,hf.trans bZ (fun k hk=> .inr (by rw [ah.1 hk];exact hgW))⟩
theorem MH {a b:List Int} (h:a.Sublist b) (hb:Ra b):Ra a:=dW.2 fun x hx=>dW.1 hb x (h.subset hx)
theorem Ints.To {w:World} {A:Option Addr} {c:Nat} {l x:List Int} (h:Ints w A c l) (hs:l.Sublist x) (hx:Ra x) (hl:l.length≤1048576):uh w ⟨A,c,l⟩:=by
 refine ⟨h.rd,MH hs hx,by show l.length≤_;omega,fun e=> ?_⟩
 have e:A=none:=e
 rcases h.form with ⟨_,h2,h3⟩ |⟨g,h2,_⟩
 ·exact ⟨by rw [h3];rfl,h2⟩
 ·rw [e] at h2;cases h2
def ScP (q:Qn) (ls:List (List Int)) (x:List Int) (w:World) (e:Ending) (w':World):Prop:=
 Fr [] w w'∧((¬dz q (ls++[x])=0∧e= .returned (.tuple #[.slice none 0 0, .int .i64 (dz q (ls++[x]))]))∨
  (dz q (ls++[x])=0∧kT q ls x=false∧e= .returned (.tuple #[.slice none 0 0, .int .i64 51]))∨
  (kT q ls x=true∧∃A' c',e= .returned (.tuple #[.slice A' (se q ls x).length c', .int .i64 0])∧Ints w' A' c' (se q ls x)))
theorem xN (w:World) (H:Qh) (q:Qn) (h:m8 w H q) (A:Option Addr) (c:Nat) (hs:List Ls) (hr:iS w A hs) (hn:A=none→c=0) (hl:hs.length≤10) (x:Ls) (hx:uh w x):
  Calls Tryz.prog 5 #[jv H q, .slice A hs.length c,x.val] w (ScP q (hs.map (·.l)) x.l w):=by
 obtain ⟨w1,dO⟩:∃W,w.alloc (.cells (jR H q) 30)=W:=⟨_,rfl⟩
 have dy:al (Fr [] w w1):=dO▸aN _ _
 have lQ:al (At w1 w.heap.size 30 (jR H q)):=dO▸At.new _ _ _
 have HQ:=ae (fun W (hW:At W w.heap.size 30 (jR H q))=>gD hW)
 have KI:=ae (fun W (hW:Fr [] w W) (y:Ls) (hy:uh W y)=>tk W H q (h.keep hW) A c hs (hr.keep hW) hn hl y hy)
 have KD:=ae (fun W A' c' xs (hx:Rd W A' xs) (hn:A'=none→c'=0) i hi hl=>Cm W A' c' xs hx hn i hi hl)
 have HX:=ae (fun W (hW:Fr [] w W)=>hx.keep hW)
 have KC:=ae (fun W (hW:Fr [] w W) (hl:x.l.length<17592186044416)=>rE W x.A x.c x.l (hx.1.keep hW) (fun e=>(hx.2.2.2 e).2) hl)
 have nv:=ae hx.2.1
 have key:∀(W:World) (e:Ending),ScP q (hs.map (·.l)) x.l w e W=ScP q (hs.map (·.l)) x.l w e W:=fun _ _=>rfl
 obtain ⟨LS,T6⟩:∃LS,hs.map (·.l)=LS:=⟨_,rfl⟩
 have ST:al (kT q LS x.l=true→x.l.length≤1024):=fun hb=>by
  unfold kT at hb
  rw [aD] at hb
  have :=oT (of_decide_eq_true hb.1) (fun c hc=>by
   rw [←T6] at hc
   rcases ag.1 hc with hc |hc
   ·obtain ⟨y,hy,rfl⟩:=az.1 hc
    obtain ⟨k,hk,hg⟩:=List.getElem_of_mem hy
    have :=(hr.2 k hk).2.1
    rw [aa,af hk,ay,hg] at this
    exact this
   ·rw [ah.1 hc];exact hx.2.1)
  exact (this.2.2 x.l (aM _ (ah.2 rfl))).1
 unfold ScP se
 rw [T6]
 simp only [T6] at KI
 obtain ⟨P,hP⟩:∃P,kT q LS=P:=⟨_,rfl⟩
 obtain ⟨RI,R6⟩:∃RI:List Int→Int,(fun y=>dz q (LS++[y]))=RI:=⟨_,rfl⟩
 have R6:∀y,dz q (LS++[y])=RI y:=fun y=>congrFun R6 y
 simp only [hP,R6] at KI ST⊢
 obtain ⟨xA,xc,xl⟩:=x
 simp only [Ls.val] at *
 obtain ⟨R,hR⟩:∃R,RI xl=R:=⟨_,rfl⟩
 obtain ⟨b,hb⟩:∃b,P xl=b:=⟨_,rfl⟩
 have K0:=KI.o w1 dy.o ⟨xA,xc,xl⟩ (HX.o w1 dy.o)
 simp only at K0
 rw [hR,hb] at K0
 rw [hR,hb]
 rw [hb] at ST
 have K0:=ae K0
 have HPB:=ae hb
 obtain ⟨dC,fh⟩:∃dC,qaf P xl.length 0 xl=dC:=⟨_,rfl⟩
 rw [fh]
 have eP:=ae fh
 clear h hr hx hP R6 T6 key hR hb fh
 simp only [jv,jR] at K0 KI dO HQ⊢
 go_enter Tryz.func5,Tryz.ntmps5
 go_upto_region 1 with fail
 clear dO
 obtain ⟨q0,q1,q2,q3,q4,q5,q6,q7,q8,q9,jo,jI,jH,jG⟩:=HQ.o w1 lQ.o
 go_wp2_with fail
 refine K0.o.mono ?_
 clear K0 q0 q1 q2 q3 q4 q5 q6 q7 q8 q9 jo jI jH jG
 rintro e w2 ⟨rfl,bZ⟩
 have cH:=ae (dy.o.aj bZ)
 have oH:=ae (lQ.o.keep bZ)
 clear bZ dy lQ
 by_cases h0:R=0
 ·have HB0:=ae h0
  have d0:(R !=(0:Int))=false:=by simp [h0]
  cases b with
  |false=>
   clear h0
   go_wp2
   go_ret2
   exact ⟨cH.o, .inr ⟨HB0.o,rfl⟩⟩
  |true=>
   have hlx:=ST.o rfl
   have KC2:=ae (KC.o w2 cH.o (by omega))
   clear h0 KC
   go_wp2_with fail
   refine KC2.o.mono ?_
   clear KC2
   rintro e w3 ⟨A3,c3,rfl,TT,CF,dD⟩
   have Gy:=ae TT
   have cZ:=ae (cH.o.aj dD)
   have AV:=ae (oH.o.keep dD)
   clear TT CF dD cH oH
   have nv:al (Ra xl):=nv
   go_wp2_with fail
   go_loopg [10,11] xl.length (fun gk IF IE wr=>∃(A':Option Addr) (c':Nat) (l:List Int) (i:Nat),i+gk=l.length∧IF= .slice A' l.length c'∧IE= .int .i64 (i:Int)∧al (Ints wr A' c' l)∧al (l.Sublist xl)∧al (qaf P gk i l=dC)∧al (Fr [] w wr)∧al (At wr w.heap.size 30 (jR H q)))
   case atStart=>exact ⟨A3,c3,xl,0,by omega,rfl,rfl,Gy,List.Sublist.refl _,eP,cZ,AV⟩
   case round=>
    clear Gy eP cZ AV
    obtain ⟨A',c',l,i,hk,rfl,rfl,HI,HS,eP,HF,Xa⟩:=hrel
    have sD:=HS.o.length_le
    have HK:=ae hk
    have tp:i≤l.length:=by omega
    clear hk
    by_cases bM:i<l.length
    ·have Wr:A'=none→c'=0:=fun e=>by
      rcases HI.o.form with ⟨_,h2,_⟩ |⟨g,h2,_⟩
      ·exact h2
      ·rw [e] at h2;cases h2
     have KD1:=ae (KD.o wr A' c' l HI.o.rd Wr i bM (by omega))
     clear Wr
     go_wp2_with fail
     refine KD1.o.mono ?_
     clear KD1
     rintro e w4 ⟨g,c2,rfl,hd⟩
     have KD2:=ae hd
     clear hd
     go_wp2_with fail
     refine KD2.o.mono ?_
     clear KD2
     rintro e w5 ⟨rfl,uH,eu⟩
     have Lf:=ae uH
     have kN:=ae (HF.o.aj eu)
     have Ix:=ae (Xa.o.keep eu)
     have Mg:=ae (HI.o.dX eu)
     have Pe:=ae ((List.eraseIdx_sublist l i).trans HS.o)
     have yp:al ((l.eraseIdx i).length=l.length-1):=lT bM
     have hle:=yp.o
     have tm:=Lf.o.To Pe.o nv.o (by omega)
     have Iv:=ae (KI.o w5 kN.o ⟨_,_,_⟩ tm)
     simp only at Iv
     obtain ⟨b2,jh⟩:∃b2,P (l.eraseIdx i)=b2:=⟨_,rfl⟩
     obtain ⟨r2,jU⟩:∃r2,RI (l.eraseIdx i)=r2:=⟨_,rfl⟩
     rw [jh,jU] at Iv
     obtain ⟨f,rfl⟩:∃f,gk=f+1:=⟨gk-1,by have :=HK.o;omega⟩
     have fS:=eP.o
     rw [qaf,if_pos bM,jh] at fS
     have oG:=ae fS
     generalize l.eraseIdx i=l2 at *
     clear uH eu HF Xa HI eP hle tm jh jU fS
     obtain ⟨q0,q1,q2,q3,q4,q5,q6,q7,q8,q9,jo,jI,jH,jG⟩:=HQ.o w5 Ix.o
     go_wp2_with fail
     refine Iv.o.mono ?_
     clear Iv q0 q1 q2 q3 q4 q5 q6 q7 q8 q9 jo jI jH jG
     rintro e w6 ⟨rfl,fN⟩
     have ik:=ae (kN.o.aj fN)
     have K9:=ae (Ix.o.keep fN)
     have Uu:=ae (Lf.o.dX fN)
     have xI:=ae (Mg.o.dX fN)
     clear fN kN Ix Lf Mg
     cases b2 with
     |true=>
      go_wp2
      go_roundg f
      case measure=>omega
      case rel=>exact ⟨_,c2,l2,i,by have :=HK.o;have :=yp.o;omega,rfl,rfl,Uu,Pe,ae (by have :=oG.o;simpa using this),ik,K9⟩
     |false=>
      go_wp2
      go_roundg f
      case measure=>omega
      case rel=>exact ⟨A',c',l,i+1,by have :=HK.o;omega,rfl,by go_num,xI,HS,ae (by have :=oG.o;simpa using this),ik,K9⟩
    ·obtain rfl :gk=0:=by have :=HK.o;omega
     have uj:al (l=dC):=eP.o
     clear eP HK
     go_wp2
     go_ret2
     exact ⟨HF.o, .inr ⟨A',c',by rw [←uj.o];rfl,uj.o▸HI.o⟩⟩
 ·have HB0:=ae h0
  have d0:(R !=(0:Int))=true:=by simp [h0]
  clear h0
  go_wp2
  go_ret2
  exact ⟨cH.o, .inl ⟨HB0.o,rfl⟩⟩
end Go.Proofs.YtdgplmgfkliijaaGreat
namespace Go.Proofs.YtdgplmgfkliijaaGreat
open Go.RowKit
theorem Et (w:World) (A:Option Addr) (c:Nat) (xs:List Int) (n:Int) (ha:Rd w A xs) (hr:Ra xs) (hl:xs.length≤17592186044416):
  Calls Tryz.prog 17 #[.slice A xs.length c, .int .i64 n] w fun e w'=>e= .returned (.bool (xs.any (· ==n)))∧Fr [] w w':=by
 have hK:al (∀s,xs.any (· ==n)=s→Ending.returned (.bool s)= .returned (.bool (xs.any (· ==n)))):=fun s h=>by rw [h]
 have HA:=ae ha
 have HR:=ae hr
 clear ha hr
 go_enter Tryz.func17,Tryz.ntmps17
 go_wp2_with fail
 go_loopg [5] xs.length (fun g i wr=>∃k:Nat,k+g=xs.length∧i= .int .i64 k∧Fr [] w wr∧eC xs (· ==n) k)
 case atStart=>exact ⟨0,by omega,rfl,Fr.refl _ _,eC.zero _ _⟩
 case round=>
  obtain ⟨k,hk,rfl,hf,hn⟩:=hrel
  have HK:=ae hk
  have HF:=ae hf
  have HN:=ae hn
  have ly:k≤xs.length:=by omega
  clear hk hf hn
  by_cases bM:k<xs.length
  ·obtain ⟨b,o,x,hA,he,cx,ij,ix⟩:=(HA.o.keep HF.o).one HR.o bM
   subst hA
   obtain ⟨q,HQ⟩:∃q:Bool,al ((x==n)=q):=⟨(x==n),ae rfl⟩
   have hq:=HQ.o
   cases q with
   |true=>
    go_wp2
    go_ret
    exact ⟨hK.o _ (rK _ _ k bM (by rw [he.o];exact HQ.o)),HF.o⟩
   |false=>
    go_wp2
    go_roundg (gk-1)
    case measure=>have :=HK.o;omega
    case rel=>exact ⟨k+1,by have :=HK.o;omega,by go_num,HF.o,HN.o.step (by rw [he.o];exact HQ.o)⟩
  ·have HT:al (xs.any (· ==n)=false):=HN.o.all bM
   clear HK HN
   go_wp2
   go_ret
   exact ⟨hK.o _ HT.o,HF.o⟩
theorem Es (w:World) (A B:Option Addr) (c d:Nat) (xs ys:List Int) (ha:Rd w A xs) (hb:Rd w B ys) (hr:Ra xs) (jU:Ra ys) (hl:xs.length≤17592186044416) (jM:ys.length≤17592186044416) (hs:∀x∈xs,x∈ys):
  Calls Tryz.prog 7 #[.slice A xs.length c, .slice B ys.length d] w fun e w'=>e= .returned (.bool true)∧Fr [] w w':=by
 have HA:=ae ha
 have HR:=ae hr
 have HS:=ae hs
 have KH:=ae (fun W (hW:Fr [] w W) n=>Et W B d ys n (hb.keep hW) jU jM)
 clear ha hb hr jU hs
 go_enter Tryz.func7,Tryz.ntmps7
 go_wp2_with fail
 go_loopg [5] xs.length (fun g i wr=>∃k:Nat,k+g=xs.length∧i= .int .i64 k∧al (Fr [] w wr))
 case atStart=>exact ⟨0,by omega,rfl,Fr.refl _ _⟩
 case round=>
  obtain ⟨k,hk,rfl,HF⟩:=hrel
  have HK:=ae hk
  have ly:k≤xs.length:=by omega
  clear hk
  by_cases bM:k<xs.length
  ·obtain ⟨b,o,x,hA,he,cx,ij,ix⟩:=(HA.o.keep HF.o).one HR.o bM
   subst hA
   have KH1:=KH.o wr HF.o x
   have ke:ys.any (· ==x)=true:=bI.2 ⟨x,HS.o x (by rw [←he.o];exact bu bM),by simp⟩
   rw [ke] at KH1
   have KH1:=ae KH1
   clear ke
   go_wp2_with fail
   refine KH1.o.mono ?_
   clear KH1
   rintro e w2 ⟨rfl,bZ⟩
   have cH:=ae (HF.o.aj bZ)
   clear bZ
   go_wp2
   go_roundg (gk-1)
   case measure=>have :=HK.o;omega
   case rel=>exact ⟨k+1,by have :=HK.o;omega,by go_num,cH⟩
  ·clear HK
   go_wp2
   go_ret
   exact ⟨rfl,HF.o⟩
end Go.Proofs.YtdgplmgfkliijaaGreat
namespace Go.Proofs.YtdgplmgfkliijaaGreat
open Go.RowKit Go.Shelf
theorem xP (w:World) (ty:TypeId) (A:Option Addr) (c:Nat) (xs:List Int) (dA:Ints w A c xs) (B:Option Addr) (d:Nat) (ys:List Int) (hB:B=none→ys.length=0∧d=0) (hr:Rd w B ys) (hlen:xs.length+ys.length≤17592186044416):
    ∃A' cap w',(Builtin.append_ #[22,22] ty #[.slice A xs.length c, .slice B ys.length d]).run Tryz.prog w= .ok (.slice A' (xs.length+ys.length) cap) w'∧Ints w' A' cap (xs++ys)∧Fr (ap A) w w'∧(∀k,k∈ap A'→k∈ap A∨k=w.heap.size)∧w.heap.size≤w'.heap.size:=by
  cases B with
  |none=>
    obtain ⟨h0,rfl⟩:=hB rfl
    have hy:=aJ h0
    subst hy
    obtain ⟨i0,hi,vG,nc,A8⟩:=info_parts kc
    have hc:xs.length≤c:=by
      rcases dA.form with ⟨_,_,rfl⟩ |⟨_,_,_,h1,_⟩
      · simp
      · exact h1
    have gU:(Builtin.append_ #[22,22] ty #[.slice A xs.length c, .slice none 0 0]).run Tryz.prog w= .ok (.slice A xs.length c) w:=by
      cases A<;>simp [Builtin.append_,run_underlying Tryz.underlying22,sizeOf,typeInfo,hi,Builtin.lenOf,hc,Builtin.firstCells,loadCells,storeCells]
    exact ⟨A,c,w,by rw [List.length_nil,Nat.add_zero];exact gU,by rw [bU];exact dA,Fr.refl _ _,fun k hk=> .inl hk,au _⟩
  |some ad=>
    obtain ⟨A',cap,w',gU,h2,h3,h4,h5,h6,h7⟩:=fd w 22 ty 3 (.int .i64 0) 1 8 Tryz.underlying22 kc rfl (by decide) A c xs.length (xs.map (Value.int .i64)) dA ad ys.length d (ys.map (Value.int .i64)) (by simp) (fun j u hu=>by
      simp only [aO,Option.map_eq_some_iff] at hu
      obtain ⟨y,hy,rfl⟩:=hu
      have hj:=(gK.1 hy).1
      obtain ⟨b,o,XZ,hx⟩:=hr (by omega)
      cases XZ
      have :=hx j hj
      rw [aa,hy] at this
      rw [dJ]
      exact this) (by simp [Value.oneCell']) (by unfold maxLen;omega) (by omega)
    refine ⟨A',cap,w',gU,?_,h3,h4,h5⟩
    unfold Ints
    rw [ai,bJ]
    exact h2
theorem iG {w:World} {ops:Array Oper} {o:Oper} {a:Act} {K:Act→World→Prop} {Q:Exit→Act→World→Prop} {E:Prop} (ou:o.guard=none) (s x:Operand)
    (ho:o.op= .call { callee:= .builtin .append,args:=#[s,x],argTypes:=#[22,22] }) (A:Option Addr) (c:Nat) (xs:List Int) (n:Nat) (hs:a.eval s= .slice A n c) (hn:n=xs.length) (dA:Ints w A c xs)
    (B:Option Addr) (d:Nat) (ys:List Int) (m:Nat) (hx:a.eval x= .slice B m d) (hm:m=ys.length) (hB:B=none→ys.length=0∧d=0) (hr:Rd w B ys) (hlen:xs.length+ys.length≤17592186044416)
    (h:∀A' cap w',Ints w' A' cap (xs++ys)→Fr (ap A) w w'→(∀k,k∈ap A'→k∈ap A∨k=w.heap.size)→w.heap.size≤w'.heap.size→K (a.put o.dst (.slice A' (n+m) cap)) w'):
    if Region.wanted o (yielded ops a.tmps)=true then Oper.wp Tryz.prog o a w K Q else E:=by
  have hw:Region.wanted o (yielded ops a.tmps)=true:=by simp [Region.wanted,ou]
  rw [if_pos hw]
  subst hn hm
  obtain ⟨A',cap,w',gU,h2,h3,h4,h5⟩:=xP w o.type A c xs dA B d ys hB hr hlen
  unfold Oper.wp execOp
  simp only [ho,resolve,invoke,builtin,Sem.run_bind,Sem.run_pure,Result.andThen_ok,List.map_toArray,cM,dU,hs,hx,gU]
  exact h A' cap w' h2 h3 h4 h5
theorem iS.take {w:World} {A:Option Addr} {hs:List Ls} (h:iS w A hs) (k:Nat):iS w A (hs.take k):=by
  have e:∀j:Nat,j<(hs.take k).length→(hs.take k)[j]! =hs[j]! ∧j<hs.length:=fun j hj=>by
    rw [aV] at hj
    refine ⟨?_,by omega⟩
    rw [aa,aa,List.getElem?_take,if_pos (by omega)]
  refine ⟨fun h0=> ?_,fun j hj=>by rw [(e j hj).1];exact h.2 j (e j hj).2⟩
  obtain ⟨b,o,hA,hx⟩:=h.1 (by rw [aV] at h0;omega)
  exact ⟨b,o,hA,fun j hj=>by rw [(e j hj).1];exact hx j (e j hj).2⟩
theorem Rd.drop {w:World} {b o:Nat} {l:List Int} (h:Rd w (some ⟨b,o,none⟩) l) (k:Nat):Rd w (some ⟨b,o+k,none⟩) (l.drop k):=by
  intro h0
  rw [iX] at h0
  obtain ⟨b',o',hA,hx⟩:=h (by omega)
  simp only [Option.some.injEq,Addr.mk.injEq,and_true] at hA
  obtain ⟨rfl,rfl⟩:=hA
  refine ⟨b,o+k,rfl,fun j hj=> ?_⟩
  rw [iX] at hj
  have :=hx (k+j) (by omega)
  rw [Nat.add_assoc,this]
  congr 2
  simp [aa,List.getElem?_drop]
theorem Rd.take {w:World} {A:Option Addr} {l:List Int} (h:Rd w A l) (k:Nat):Rd w A (l.take k):=by
  intro h0
  rw [aV] at h0
  obtain ⟨b,o,hA,hx⟩:=h (by omega)
  refine ⟨b,o,hA,fun j hj=> ?_⟩
  rw [aV] at hj
  rw [hx j (by omega)]
  congr 2
  simp [aa,show j<k by omega]
theorem Qt {q:Qn} {ls:List (List Int)} {x:List Int} (lM:∀c∈ls++[x],Ra c):(¬dz q (ls++[x])=0→kT q ls x=false)∧(kT q ls x=true→dz q (ls++[x])=0∧x.length≤1024∧(se q ls x).Sublist x∧dz q (ls++[se q ls x])=0∧kT q ls (se q ls x)=true∧∀j,j<(se q ls x).length→kT q ls ((se q ls x).eraseIdx j)=false):=by
  refine ⟨fun h=> ?_,fun h=> ?_⟩
  · unfold kT
    rw [decide_eq_false h]
    rfl
  · obtain ⟨k1,k2,k3⟩:=Qs h
    unfold kT at h
    rw [aD] at h
    have h0:=of_decide_eq_true h.1
    exact ⟨h0,((oT h0 lM).2.2 x (aM _ (ah.2 rfl))).1,k1,yF k1 h0,k2,k3⟩
theorem Er (w:World) (H:Qh) (q:Qn) (h:m8 w H q) (A:Option Addr) (c:Nat) (hs:List Ls) (hr:iS w A hs) (hn:A=none→c=0) (sI:hs.length≤c) (hl:hs.length≤17592186044416) (x:Ls) (hx:uh w x):
    Calls Tryz.prog 3 #[jv H q, .slice A hs.length c,x.val] w fun e w'=>e= .returned (.bool true)∧Fr [] w w':=by
  obtain ⟨w1,dO⟩:∃W,w.alloc (.cells (jR H q) 30)=W:=⟨_,rfl⟩
  have dy:al (Fr [] w w1):=dO▸aN _ _
  have lQ:al (At w1 w.heap.size 30 (jR H q)):=dO▸At.new _ _ _
  have HQ:=ae (fun W (hW:At W w.heap.size 30 (jR H q))=>gD hW)
  have KA:=ae (yk w1)
  obtain ⟨iW,TU⟩:∃iW,hs.take 10=iW:=⟨_,rfl⟩
  have Fe:iS w A iW:=TU▸hr.take 10
  have Fm:iW.length≤10:=by rw [←TU,aV];omega
  have KI:=ae (fun W (hW:Fr [] w W) (y:Ls) (hy:uh W y)=>tk W H q (h.keep hW) A c iW (Fe.keep hW) hn Fm y hy)
  have KS:=ae (fun W (hW:Fr [] w W)=>xN W H q (h.keep hW) A c iW (Fe.keep hW) hn Fm x (hx.keep hW))
  have HX:=ae (fun W (hW:Fr [] w W)=>hx.keep hW)
  have nv:=ae hx.2.1
  obtain ⟨n,y9⟩:∃n,iW.length=n:=⟨_,rfl⟩
  have HN:al (n=if 10<hs.length then 10 else hs.length):=ae (by
    rw [←y9,←TU,aV]
    split<;>omega)
  have HA:al (10<hs.length→∃b o,A=some ⟨b,o,none⟩):=fun h0=>by
    obtain ⟨b,o,hA,_⟩:=hr.1 (by omega)
    exact ⟨b,o,hA⟩
  obtain ⟨LS,T6⟩:∃LS,iW.map (·.l)=LS:=⟨_,rfl⟩
  have hla:=Qt (q:=q) (ls:=LS) (x:=x.l) (fun c hc=>by
    rw [←T6] at hc
    rcases ag.1 hc with hc |hc
    · obtain ⟨y,hy,rfl⟩:=az.1 hc
      obtain ⟨k,hk,hg⟩:=List.getElem_of_mem hy
      have :=(Fe.2 k hk).2.1
      rw [aa,af hk,ay,hg] at this
      exact this
    · rw [ah.1 hc];exact hx.2.1)
  unfold ScP at KS
  simp only [T6,y9] at KI KS
  obtain ⟨dC,fh⟩:∃dC,se q LS x.l=dC:=⟨_,rfl⟩
  obtain ⟨P,hP⟩:∃P,kT q LS=P:=⟨_,rfl⟩
  obtain ⟨RI,R6⟩:∃RI:List Int→Int,(fun y=>dz q (LS++[y]))=RI:=⟨_,rfl⟩
  have R6:∀y,dz q (LS++[y])=RI y:=fun y=>congrFun R6 y
  simp only [hP,R6,fh] at KI KS hla
  obtain ⟨VV,JM⟩:=hla
  obtain ⟨xA,xc,xl⟩:=x
  simp only [Ls.val] at *
  obtain ⟨R,hR⟩:∃R,RI xl=R:=⟨_,rfl⟩
  obtain ⟨b,hb⟩:∃b,P xl=b:=⟨_,rfl⟩
  have KX:=ae (fun W (hW:Fr [] w W)=>KI.o W hW ⟨xA,xc,xl⟩ (HX.o W hW))
  simp only [hR,hb] at KX KS VV JM
  have lR:=ae VV
  have j5:=ae JM
  clear h hr Fe hx TU Fm y9 T6 hP R6 fh hR hb VV JM
  simp only [jv,jR] at KX KS KI dO HQ⊢
  go_enter Tryz.func3,Tryz.ntmps3
  go_upto_region 1 with fail
  clear dO
  go_wp2_with fail
  refine KA.o.mono ?_
  clear KA
  rintro e w2 ⟨rfl,bZ⟩
  have cH:=ae (dy.o.aj bZ)
  have oH:=ae (lQ.o.keep bZ)
  clear bZ dy lQ
  go_upto_if 21 with fail
  go_cut [1] (fun x1 wx=>x1= .slice A n c∧w2=wx)
  case first =>
    by_cases PY:10<hs.length
    · obtain ⟨ab,ao,rfl⟩:=HA.o PY
      obtain rfl :n=10:=by have :=HN.o;rw [if_pos PY] at this;exact this
      have d1:decide ((10:Int)<(hs.length:Int))=true:=decide_eq_true (by omega)
      have d2:(10:Int)<(hs.length:Int):=by omega
      clear KI KS KX HX lR j5 HN HA
      go_wp2
      go_meet
      exact ⟨rfl,rfl⟩
    · obtain rfl :n=hs.length:=by have :=HN.o;rw [if_neg PY] at this;exact this
      have d1:decide ((10:Int)<(hs.length:Int))=false:=decide_eq_false (by omega)
      clear KI KS KX HX lR j5 HN HA
      go_wp2
      go_meet
      exact ⟨rfl,rfl⟩
  case rest=>
    obtain ⟨rfl,rfl⟩:=hcut
    clear HA HN
    have KS2:=ae (KS.o w2 cH.o)
    clear KS
    obtain ⟨q0,q1,q2,q3,q4,q5,q6,q7,q8,q9,jo,jI,jH,jG⟩:=HQ.o w2 oH.o
    go_wp2_with fail
    refine KS2.o.mono ?_
    clear KS2 q0 q1 q2 q3 q4 q5 q6 q7 q8 q9 jo jI jH jG
    rintro e w3 ⟨dD,CT⟩
    have cZ:=ae (cH.o.aj dD)
    have AV:=ae (oH.o.keep dD)
    have Yb:=ae (KX.o w3 cZ.o)
    clear dD cH oH KX
    rcases CT with ⟨h0,rfl⟩ |⟨rfl,rfl,rfl⟩ |⟨rfl,A',c',rfl,hi⟩
    · obtain rfl :=lR.o h0
      have d0:(R !=(0:Int))=true:=by simp [h0]
      have d1:(R==(0:Int))=false:=by simp [h0]
      have d2:(R==R)=true:=by simp
      clear h0 KI lR j5
      obtain ⟨q0,q1,q2,q3,q4,q5,q6,q7,q8,q9,jo,jI,jH,jG⟩:=HQ.o w3 AV.o
      go_wp2_with fail
      refine Yb.o.mono ?_
      clear Yb q0 q1 q2 q3 q4 q5 q6 q7 q8 q9 jo jI jH jG
      rintro e w4 ⟨rfl,eW⟩
      have fM:=ae (cZ.o.aj eW)
      clear eW
      go_wp2
      go_ret
      exact ⟨rfl,fM.o⟩
    · clear KI lR j5
      obtain ⟨q0,q1,q2,q3,q4,q5,q6,q7,q8,q9,jo,jI,jH,jG⟩:=HQ.o w3 AV.o
      go_wp2_with fail
      refine Yb.o.mono ?_
      clear Yb q0 q1 q2 q3 q4 q5 q6 q7 q8 q9 jo jI jH jG
      rintro e w4 ⟨rfl,eW⟩
      have fM:=ae (cZ.o.aj eW)
      clear eW
      go_wp2
      go_ret
      exact ⟨rfl,fM.o⟩
    · obtain ⟨rfl,amk,Cr,hri,hp,oq⟩:=j5.o rfl
      have Gy:=ae hi
      have HS:=ae Cr
      have Qc:=ae oq
      have hrl:=Cr.length_le
      have Z5:=hi.To Cr nv.o (by omega)
      clear hi Cr oq lR j5
      obtain ⟨q0,q1,q2,q3,q4,q5,q6,q7,q8,q9,jo,jI,jH,jG⟩:=HQ.o w3 AV.o
      go_wp2_with fail
      refine Yb.o.mono ?_
      clear Yb q0 q1 q2 q3 q4 q5 q6 q7 q8 q9 jo jI jH jG
      rintro e w4 ⟨rfl,eW⟩
      have fM:=ae (cZ.o.aj eW)
      have HQ4:=ae (AV.o.keep eW)
      have Mg:=ae (Gy.o.dX eW)
      have KY:=KI.o w4 fM.o ⟨A',c',dC⟩ (Z5.keep eW)
      simp only [hri,hp] at KY
      have KY:=ae KY
      have JA:=HX.o w4 fM.o
      have KU:=ae (fun W (hW:Fr [] w4 W)=>Es W A' xA c' xc dC xl (Mg.o.rd.keep hW) (JA.1.keep hW) (MH HS.o nv.o) nv.o (by omega) (by omega) (fun z hz=>HS.o.subset hz))
      clear eW cZ AV Gy Z5 hri hp JA
      obtain ⟨q0,q1,q2,q3,q4,q5,q6,q7,q8,q9,jo,jI,jH,jG⟩:=HQ.o w4 HQ4.o
      go_wp2_with fail
      refine KY.o.mono ?_
      clear KY q0 q1 q2 q3 q4 q5 q6 q7 q8 q9 jo jI jH jG
      rintro e w5 ⟨rfl,eu⟩
      have kN:=ae (fM.o.aj eu)
      have Ix:=ae (HQ4.o.keep eu)
      have Lf:=ae (Mg.o.dX eu)
      have KU5:=ae (KU.o w5 eu)
      clear eu fM HQ4 Mg KU
      go_wp2_with fail
      refine KU5.o.mono ?_
      clear KU5
      rintro e w6 ⟨rfl,fN⟩
      have ik:=ae (kN.o.aj fN)
      have K9:=ae (Ix.o.keep fN)
      have Uu:=ae (Lf.o.dX fN)
      clear fN kN Ix Lf
      go_wp2_with fail
      go_loopg [13] dC.length (fun gk Ys wr=>∃k:Nat,k+gk=dC.length∧Ys= .int .i64 k∧al (Fr [] w6 wr))
      case atStart=>exact ⟨0,by omega,rfl,Fr.refl _ _⟩
      case round=>
        obtain ⟨k,hk,rfl,Ym⟩:=hrel
        have HK:=ae hk
        have ly:k≤dC.length:=by omega
        clear hk
        by_cases bM:k<dC.length
        · have xI:=ae (Uu.o.dX Ym.o)
          obtain ⟨g,rfl,sE,qf,DZ⟩:∃g,A'=some ⟨g,0,none⟩∧g<wr.heap.size∧dC.length≤c'∧c'≤maxLen:=by
            rcases xI.o.form with ⟨_,_,h3⟩ |h3
            · rw [h3] at bM;exact absurd bM (aI _)
            · exact h3
          have hP:=Qc.o k bM
          have aoi:al (Rs wr (some ⟨g,0,none⟩) ((dC.take k).map (Value.int .i64))):=(xI.o.rd.take k).rs
          have abL:al (Rs wr (some ⟨g,0+(k+1),none⟩) ((dC.drop (k+1)).map (Value.int .i64))):=(xI.o.rd.drop (k+1)).rs
          have La:=ae hP
          clear hP
          have hw:IntKind.i64.wrap ((k:Int)+1)=(k:Int)+1:=IntWalk.i64_in _ (by omega)
          go_upto_region 16 with fail
          by_cases hce:k+1=c'
          · have hd0:dC.drop (k+1)=[]:=List.drop_eq_nil_of_le (by omega)
            have HRE:al (∀W,Fr [] wr W→Rd W (some ⟨g,0,none⟩) (dC.drop (k+1))):=ae (fun W _ h0=>by rw [hd0] at h0;cases h0)
            refine wp_region_noPanic ?_
            refine bp (fun w':World=>Fr [] wr w') 9 (by kernel_rfl) ((Fr.refl _ wr).drew) (fun db=> ?_)
            refine gu (i:=0) (oi:= ?oir16u1L) (v:= ?vr16u1L) ?hir16u1L (by kernel_rfl) (by kernel_rfl) (by kernel_rfl) (by kernel_rfl) ?hQr16u1L ?hwr16u1L ?hyr16u1L db ?_
            case hir16u1L=>(simp only [cN,cg];rfl)
            case hQr16u1L=>exact fun _ _ _ h=>h
            case hwr16u1L=>rfl
            case hyr16u1L=>(intro w;go_simp<;>with_reducible rfl)
            try simp only [Act.put,List.setIfInBounds_toArray,List.set_cons_zero,List.set_cons_succ]
            refine gu (i:=1) (oi:= ?oir16u2L) (v:= ?vr16u2L) ?hir16u2L (by kernel_rfl) (by kernel_rfl) (by kernel_rfl) (by kernel_rfl) ?hQr16u2L ?hwr16u2L ?hyr16u2L (db.more 0) ?_
            case hir16u2L=>(simp only [cN,cw,cg];rfl)
            case hQr16u2L=>exact fun _ _ _ h=>h
            case hwr16u2L=>rfl
            case hyr16u2L=>(intro w;go_simp<;>with_reducible rfl)
            try simp only [Act.put,List.setIfInBounds_toArray,List.set_cons_zero,List.set_cons_succ]
            refine gu (i:=2) (oi:= ?oir16u3L) (v:= ?vr16u3L) ?hir16u3L (by kernel_rfl) (by kernel_rfl) (by kernel_rfl) (by kernel_rfl) ?hQr16u3L ?hwr16u3L ?hyr16u3L ((db.more 0).more 1) ?_
            case hir16u3L=>(simp only [cN,cw,cg];rfl)
            case hQr16u3L=>exact fun _ _ _ h=>h
            case hwr16u3L=>rfl
            case hyr16u3L=>(intro w;go_simp<;>with_reducible rfl)
            try simp only [Act.put,List.setIfInBounds_toArray,List.set_cons_zero,List.set_cons_succ]
            refine gu (i:=3) (oi:= ?YV) (v:= ?acK) ?NU (by kernel_rfl) (by kernel_rfl) (by kernel_rfl) (by kernel_rfl) ?Oo ?Nh ?M9 (((db.more 0).more 1).more 2) ?_
            case NU=>(simp only [cN,cw,cg];rfl)
            case Oo=>exact fun _ _ _ h=>h
            case Nh=>rfl
            case M9=>(intro w;go_simp;rw [if_pos (show k≤c' by omega)])
            try simp only [Act.put,List.setIfInBounds_toArray,List.set_cons_zero,List.set_cons_succ]
            refine gu (i:=5) (oi:= ?oir16u5L) (v:= ?vr16u5L) ?hir16u5L (by kernel_rfl) (by kernel_rfl) (by kernel_rfl) (by kernel_rfl) ?hQr16u5L ?hwr16u5L ?hyr16u5L ((((db.more 0).more 1).more 2).more 3) ?_
            case hir16u5L=>(simp only [cN,cw,cg];rfl)
            case hQr16u5L=>exact fun _ _ _ h=>h
            case hwr16u5L=>rfl
            case hyr16u5L=>(intro w;go_simp<;>with_reducible rfl)
            try simp only [Act.put,List.setIfInBounds_toArray,List.set_cons_zero,List.set_cons_succ]
            refine gu (i:=6) (oi:= ?oir16u6L) (v:= ?vr16u6L) ?hir16u6L (by kernel_rfl) (by kernel_rfl) (by kernel_rfl) (by kernel_rfl) ?hQr16u6L ?hwr16u6L ?hyr16u6L (((((db.more 0).more 1).more 2).more 3).more 5) ?_
            case hir16u6L=>(simp only [cN,cw,cg];rfl)
            case hQr16u6L=>exact fun _ _ _ h=>h
            case hwr16u6L=>rfl
            case hyr16u6L=>(intro w;go_simp<;>with_reducible rfl)
            try simp only [Act.put,List.setIfInBounds_toArray,List.set_cons_zero,List.set_cons_succ]
            refine gu (i:=7) (oi:= ?oir16u7L) (v:= ?vr16u7L) ?hir16u7L (by kernel_rfl) (by kernel_rfl) (by kernel_rfl) (by kernel_rfl) ?hQr16u7L ?hwr16u7L ?hyr16u7L ((((((db.more 0).more 1).more 2).more 3).more 5).more 6) ?_
            case hir16u7L=>(simp only [cN,cw,cg];rfl)
            case hQr16u7L=>exact fun _ _ _ h=>h
            case hwr16u7L=>rfl
            case hyr16u7L=>(intro w;go_simp<;>with_reducible rfl)
            try simp only [Act.put,List.setIfInBounds_toArray,List.set_cons_zero,List.set_cons_succ]
            refine gu (i:=8) (oi:= ?YT) (v:= ?acI) ?NR (by kernel_rfl) (by kernel_rfl) (by kernel_rfl) (by kernel_rfl) ?Om ?Nf ?M7 (((((((db.more 0).more 1).more 2).more 3).more 5).more 6).more 7) ?_
            case NR=>(simp only [cN,cw,cg];rfl)
            case Om=>exact fun _ _ _ h=>h
            case Nf=>rfl
            case M7=>(intro w;go_simp;rw [if_pos (show 0≤(k:Int)+1∧(k:Int)+1≤(dC.length:Int) by omega)])
            try simp only [Act.put,List.setIfInBounds_toArray,List.set_cons_zero,List.set_cons_succ]
            have aH:=((((((((db.more 0).more 1).more 2).more 3).more 5).more 6).more 7).more 8).resolve_left (by decide)
            refine aU (rs:=[4]) (by kernel_rfl) (by simp) ?_
            refine bY.cons (o:= ?or16u9L) ?hor16u9L ?hstepr16u9L bY.nil
            case hor16u9L=>(simp only [cN,cw,cg];rfl)
            intro K hK
            (refine iG rfl _ _ rfl none 0 [] 0 rfl rfl (Ints.nil _) (some ⟨g,0,none⟩) c' (dC.take k) k rfl ?NC (fun h=>by cases h) ?Np (by simp;omega) ?_;(case NC=>rw [aV];omega);(case Np=>exact (xI.o.rd.keep aH).take k);intro A2 OO w7 xC gG PZ pE);have HI8:=ae xC;have HS8:=ae (aH.aj gG);have xr:al (∀k,k∈ap A2→wr.heap.size≤k):=ae (fun k hk=>by have :=aH.size;rcases PZ k hk with h |h;(cases h);omega);clear xC gG PZ pE
            refine hK.out _ _ (.inr ?_) (fun P2=> ?_)
            · first |exact W6.o |exact HS8.o |exact aH
            clear hK K
            try simp only [Act.put,List.setIfInBounds_toArray,List.set_cons_zero,List.set_cons_succ]
            have aH:=P2.resolve_left (by decide)
            refine aU (rs:=[9]) (by kernel_rfl) (by simp) ?_
            refine bY.cons (o:= ?or16u10L) ?hor16u10L ?hstepr16u10L bY.nil
            case hor16u10L=>(simp only [cN,cw,cg];rfl)
            intro K hK
            (refine iG rfl _ _ rfl A2 OO ([]++dC.take k) _ rfl ?JI HI8.o _ _ (dC.drop (k+1)) _ rfl ?JK ?J5 ?Jh (by simp;omega) ?_;(case JI=>simp;omega);(case JK=>have :=iX (l:=dC) (i:=k+1);omega);(case J5=>intro h;cases h);(case Jh=>exact HRE.o _ aH);intro A3 Do w8 za jg hg8 hs8);have HI9:=ae za;have W6:=ae (aH.trans jg (fun k hk=> .inr (xr.o k hk)));clear za jg hg8 hs8
            refine hK.out _ _ (.inl rfl) (fun lJ=> ?_)
            clear hK K
            try simp only [Act.put,List.setIfInBounds_toArray,List.set_cons_zero,List.set_cons_succ]
            refine aU (rs:=[10]) (by kernel_rfl) (by simp) ?_
            refine bY.cons (o:= ?YQ) ?hor16u11L ?hstepr16u11L bY.nil
            case hor16u11L=>(simp only [cN,cw,cg];rfl)
            intro K hK
            go_simp
            refine hK.out _ _ (.inl rfl) (fun mn=> ?_)
            clear hK K
            try simp only [Act.put,List.setIfInBounds_toArray,List.set_cons_zero,List.set_cons_succ]
            refine fo ?_
            obtain ⟨l2,jM⟩:∃l2,dC.eraseIdx k=l2:=⟨_,rfl⟩
            have hle:l2.length=dC.length-1:=by rw [←jM];exact lT bM
            have NY:Ints w8 A3 Do l2:=by
              have :=HI9.o
              rw [List.nil_append,←List.eraseIdx_eq_take_drop_succ,jM] at this
              exact this
            have jg:=Ym.o.aj W6.o
            have tm:=NY.To (jM▸(List.eraseIdx_sublist dC k).trans HS.o:l2.Sublist xl) nv.o (by omega)
            have KY:=KI.o w8 (ik.o.aj jg) ⟨A3,Do,l2⟩ tm
            have Nt:P l2=false:=jM▸La.o
            obtain ⟨r2,jU⟩:∃r2,RI l2=r2:=⟨_,rfl⟩
            simp only [Nt,jU] at KY
            rw [show l2.length=k by omega] at KY
            have KY:=ae KY
            have Li:=ae jg
            have HQ8:=ae (K9.o.keep jg)
            clear jM hle NY jg tm Nt jU HI9 W6 HI8 HS8 xr HRE La xI Ym aH
            obtain ⟨q0,q1,q2,q3,q4,q5,q6,q7,q8,q9,jo,jI,jH,jG⟩:=HQ.o w8 HQ8.o
            go_wp2_with fail
            refine KY.o.mono ?_
            clear KY q0 q1 q2 q3 q4 q5 q6 q7 q8 q9 jo jI jH jG
            rintro e w9 ⟨rfl,ow⟩
            have tG:=ae (Li.o.aj ow)
            clear ow
            go_wp2
            go_roundg (gk-1)
            case measure=>have :=HK.o;omega
            case rel=>exact ⟨k+1,by have :=HK.o;omega,by go_num,tG⟩
          · have HRE:al (∀W,Fr [] wr W→Rd W (some ⟨g,k+1,none⟩) (dC.drop (k+1))):=ae (fun W hW=>by
              have :=(xI.o.rd.drop (k+1)).keep hW
              rwa [cS] at this)
            refine wp_region_noPanic ?_
            refine bp (fun w':World=>Fr [] wr w') 9 (by kernel_rfl) ((Fr.refl _ wr).drew) (fun db=> ?_)
            refine gu (i:=0) (oi:= ?oir16u1M) (v:= ?vr16u1M) ?hir16u1M (by kernel_rfl) (by kernel_rfl) (by kernel_rfl) (by kernel_rfl) ?hQr16u1M ?hwr16u1M ?hyr16u1M db ?_
            case hir16u1M=>(simp only [cN,cg];rfl)
            case hQr16u1M=>exact fun _ _ _ h=>h
            case hwr16u1M=>rfl
            case hyr16u1M=>(intro w;go_simp<;>with_reducible rfl)
            try simp only [Act.put,List.setIfInBounds_toArray,List.set_cons_zero,List.set_cons_succ]
            refine gu (i:=1) (oi:= ?oir16u2M) (v:= ?vr16u2M) ?hir16u2M (by kernel_rfl) (by kernel_rfl) (by kernel_rfl) (by kernel_rfl) ?hQr16u2M ?hwr16u2M ?hyr16u2M (db.more 0) ?_
            case hir16u2M=>(simp only [cN,cw,cg];rfl)
            case hQr16u2M=>exact fun _ _ _ h=>h
            case hwr16u2M=>rfl
            case hyr16u2M=>(intro w;go_simp<;>with_reducible rfl)
            try simp only [Act.put,List.setIfInBounds_toArray,List.set_cons_zero,List.set_cons_succ]
            refine gu (i:=2) (oi:= ?oir16u3M) (v:= ?vr16u3M) ?hir16u3M (by kernel_rfl) (by kernel_rfl) (by kernel_rfl) (by kernel_rfl) ?hQr16u3M ?hwr16u3M ?hyr16u3M ((db.more 0).more 1) ?_
            case hir16u3M=>(simp only [cN,cw,cg];rfl)
            case hQr16u3M=>exact fun _ _ _ h=>h
            case hwr16u3M=>rfl
            case hyr16u3M=>(intro w;go_simp<;>with_reducible rfl)
            try simp only [Act.put,List.setIfInBounds_toArray,List.set_cons_zero,List.set_cons_succ]
            refine gu (i:=3) (oi:= ?YU) (v:= ?acJ) ?NS (by kernel_rfl) (by kernel_rfl) (by kernel_rfl) (by kernel_rfl) ?On ?Ng ?M8 (((db.more 0).more 1).more 2) ?_
            case NS=>(simp only [cN,cw,cg];rfl)
            case On=>exact fun _ _ _ h=>h
            case Ng=>rfl
            case M8=>(intro w;go_simp;rw [if_pos (show k≤c' by omega)])
            try simp only [Act.put,List.setIfInBounds_toArray,List.set_cons_zero,List.set_cons_succ]
            refine gu (i:=5) (oi:= ?oir16u5M) (v:= ?vr16u5M) ?hir16u5M (by kernel_rfl) (by kernel_rfl) (by kernel_rfl) (by kernel_rfl) ?hQr16u5M ?hwr16u5M ?hyr16u5M ((((db.more 0).more 1).more 2).more 3) ?_
            case hir16u5M=>(simp only [cN,cw,cg];rfl)
            case hQr16u5M=>exact fun _ _ _ h=>h
            case hwr16u5M=>rfl
            case hyr16u5M=>(intro w;go_simp<;>with_reducible rfl)
            try simp only [Act.put,List.setIfInBounds_toArray,List.set_cons_zero,List.set_cons_succ]
            refine gu (i:=6) (oi:= ?oir16u6M) (v:= ?vr16u6M) ?hir16u6M (by kernel_rfl) (by kernel_rfl) (by kernel_rfl) (by kernel_rfl) ?hQr16u6M ?hwr16u6M ?hyr16u6M (((((db.more 0).more 1).more 2).more 3).more 5) ?_
            case hir16u6M=>(simp only [cN,cw,cg];rfl)
            case hQr16u6M=>exact fun _ _ _ h=>h
            case hwr16u6M=>rfl
            case hyr16u6M=>(intro w;go_simp<;>with_reducible rfl)
            try simp only [Act.put,List.setIfInBounds_toArray,List.set_cons_zero,List.set_cons_succ]
            refine gu (i:=7) (oi:= ?oir16u7M) (v:= ?vr16u7M) ?hir16u7M (by kernel_rfl) (by kernel_rfl) (by kernel_rfl) (by kernel_rfl) ?hQr16u7M ?hwr16u7M ?hyr16u7M ((((((db.more 0).more 1).more 2).more 3).more 5).more 6) ?_
            case hir16u7M=>(simp only [cN,cw,cg];rfl)
            case hQr16u7M=>exact fun _ _ _ h=>h
            case hwr16u7M=>rfl
            case hyr16u7M=>(intro w;go_simp<;>with_reducible rfl)
            try simp only [Act.put,List.setIfInBounds_toArray,List.set_cons_zero,List.set_cons_succ]
            refine gu (i:=8) (oi:= ?YS) (v:= ?acH) ?NQ (by kernel_rfl) (by kernel_rfl) (by kernel_rfl) (by kernel_rfl) ?Ol ?Nd ?M6 (((((((db.more 0).more 1).more 2).more 3).more 5).more 6).more 7) ?_
            case NQ=>(simp only [cN,cw,cg];rfl)
            case Ol=>exact fun _ _ _ h=>h
            case Nd=>rfl
            case M6=>(intro w;go_simp;rw [if_pos (show 0≤(k:Int)+1∧(k:Int)+1≤(dC.length:Int) by omega),if_neg (show ¬c'=k+1 by omega)])
            try simp only [Act.put,List.setIfInBounds_toArray,List.set_cons_zero,List.set_cons_succ]
            have aH:=((((((((db.more 0).more 1).more 2).more 3).more 5).more 6).more 7).more 8).resolve_left (by decide)
            refine aU (rs:=[4]) (by kernel_rfl) (by simp) ?_
            refine bY.cons (o:= ?or16u9M) ?hor16u9M ?hstepr16u9M bY.nil
            case hor16u9M=>(simp only [cN,cw,cg];rfl)
            intro K hK
            (refine iG rfl _ _ rfl none 0 [] 0 rfl rfl (Ints.nil _) (some ⟨g,0,none⟩) c' (dC.take k) k rfl ?NA (fun h=>by cases h) ?No (by simp;omega) ?_;(case NA=>rw [aV];omega);(case No=>exact (xI.o.rd.keep aH).take k);intro A2 OO w7 xC gG PZ pE);have HI8:=ae xC;have HS8:=ae (aH.aj gG);have xr:al (∀k,k∈ap A2→wr.heap.size≤k):=ae (fun k hk=>by have :=aH.size;rcases PZ k hk with h |h;(cases h);omega);clear xC gG PZ pE
            refine hK.out _ _ (.inr ?_) (fun P2=> ?_)
            · first |exact W6.o |exact HS8.o |exact aH
            clear hK K
            try simp only [Act.put,List.setIfInBounds_toArray,List.set_cons_zero,List.set_cons_succ]
            have aH:=P2.resolve_left (by decide)
            refine aU (rs:=[9]) (by kernel_rfl) (by simp) ?_
            refine bY.cons (o:= ?or16u10M) ?hor16u10M ?hstepr16u10M bY.nil
            case hor16u10M=>(simp only [cN,cw,cg];rfl)
            intro K hK
            (refine iG rfl _ _ rfl A2 OO ([]++dC.take k) _ rfl ?JH HI8.o _ _ (dC.drop (k+1)) _ rfl ?JJ ?J4 ?Jg (by simp;omega) ?_;(case JH=>simp;omega);(case JJ=>have :=iX (l:=dC) (i:=k+1);omega);(case J4=>intro h;cases h);(case Jg=>exact HRE.o _ aH);intro A3 Do w8 za jg hg8 hs8);have HI9:=ae za;have W6:=ae (aH.trans jg (fun k hk=> .inr (xr.o k hk)));clear za jg hg8 hs8
            refine hK.out _ _ (.inl rfl) (fun lJ=> ?_)
            clear hK K
            try simp only [Act.put,List.setIfInBounds_toArray,List.set_cons_zero,List.set_cons_succ]
            refine aU (rs:=[10]) (by kernel_rfl) (by simp) ?_
            refine bY.cons (o:= ?YP) ?hor16u11M ?hstepr16u11M bY.nil
            case hor16u11M=>(simp only [cN,cw,cg];rfl)
            intro K hK
            go_simp
            refine hK.out _ _ (.inl rfl) (fun mn=> ?_)
            clear hK K
            try simp only [Act.put,List.setIfInBounds_toArray,List.set_cons_zero,List.set_cons_succ]
            refine fo ?_
            obtain ⟨l2,jM⟩:∃l2,dC.eraseIdx k=l2:=⟨_,rfl⟩
            have hle:l2.length=dC.length-1:=by rw [←jM];exact lT bM
            have NY:Ints w8 A3 Do l2:=by
              have :=HI9.o
              rw [List.nil_append,←List.eraseIdx_eq_take_drop_succ,jM] at this
              exact this
            have jg:=Ym.o.aj W6.o
            have tm:=NY.To (jM▸(List.eraseIdx_sublist dC k).trans HS.o:l2.Sublist xl) nv.o (by omega)
            have KY:=KI.o w8 (ik.o.aj jg) ⟨A3,Do,l2⟩ tm
            have Nt:P l2=false:=jM▸La.o
            obtain ⟨r2,jU⟩:∃r2,RI l2=r2:=⟨_,rfl⟩
            simp only [Nt,jU] at KY
            rw [show l2.length=k+(dC.length-(k+1)) by omega] at KY
            have KY:=ae KY
            have Li:=ae jg
            have HQ8:=ae (K9.o.keep jg)
            clear jM hle NY jg tm Nt jU HI9 W6 HI8 HS8 xr HRE La xI Ym aH
            obtain ⟨q0,q1,q2,q3,q4,q5,q6,q7,q8,q9,jo,jI,jH,jG⟩:=HQ.o w8 HQ8.o
            go_wp2_with fail
            refine KY.o.mono ?_
            clear KY q0 q1 q2 q3 q4 q5 q6 q7 q8 q9 jo jI jH jG
            rintro e w9 ⟨rfl,ow⟩
            have tG:=ae (Li.o.aj ow)
            clear ow
            go_wp2
            go_roundg (gk-1)
            case measure=>have :=HK.o;omega
            case rel=>exact ⟨k+1,by have :=HK.o;omega,by go_num,tG⟩
        · clear HK
          go_wp2
          go_ret
          exact ⟨rfl,ik.o.aj Ym.o⟩
end Go.Proofs.YtdgplmgfkliijaaGreat
