/- Parts of a proof. -/
import Derived.Test.YtdgplmgfkliijaaGreatGAK
import Derived.Laws.MakeOwn
set_option linter.unusedVariables false
set_option linter.unusedSimpArgs false
set_option maxHeartbeats 8000000
namespace Go.Proofs.YtdgplmgfkliijaaGreat
open Go.RowKit
theorem oY:(Tryz.prog.info? 22).map (fun i=>(i.zero,i.size,i.bytes))=some (some (.slice none 0 0),1,24):=by kernel_rfl
theorem BR {w:World} {e e':TypeId} {size YC n n' c c':Nat} {A A':Option Addr} {vs vs':List Value} (h:w.ownsRow 0 e size (.slice A n c) n vs) (h':w.ownsRow 0 e' YC (.slice A' n' c') n' vs') (dI:e≠e'):∀k,k∈ap A→k∉ap A':=by
 intro k hk pI
 rcases h.2 with ⟨h1,_⟩ |⟨g,cap,cur,hv,_,hg,_⟩
 ·simp only [Value.slice.injEq] at h1
  rw [h1.1] at hk
  simp [ap] at hk
 ·rcases h'.2 with ⟨h1,_⟩ |⟨g',agn,anM,hv',_,pJ,_⟩
  ·simp only [Value.slice.injEq] at h1
   rw [h1.1] at pI
   simp [ap] at pI
  ·simp only [Value.slice.injEq,true_and] at hv hv'
   obtain ⟨rfl,rfl⟩:=hv
   obtain ⟨rfl,rfl⟩:=hv'
   simp [ap] at hk pI
   subst hk pI
   rw [hg] at pJ
   simp only [Option.some.injEq,Obj.cells.injEq] at pJ
   exact dI pJ.2.1
structure NwLs (w:World) (B:Nat) (A:Option Addr) (c:Nat) (hs:List Ls):Prop where
 row:w.ownsRow 0 22 1 (.slice A hs.length c) hs.length (hs.map Ls.val)
 new:∀k,k∈ap A→B≤k
 each:∀h∈hs,Ints w h.A h.c h.l∧Ra h.l∧h.l.length≤1048576∧∀k,k∈ap h.A→B≤k
namespace NwLs
variable {w w':World} {B:Nat} {A:Option Addr} {c:Nat} {hs:List Ls}
theorem keep (k:NwLs w B A c hs) (hf:Fr [] w w'):NwLs w' B A c hs:=⟨hf.own k.row (by simp),k.new,fun h hh=>⟨(k.each h hh).1.fr hf (fun _ _ hm=>by cases hm),(k.each h hh).2⟩⟩
theorem low {B':Nat} (k:NwLs w B A c hs) (h:B'≤B):NwLs w B' A c hs:=⟨k.row,fun j hj=>aF h (k.new j hj),fun x hx=>⟨(k.each x hx).1,(k.each x hx).2.1,(k.each x hx).2.2.1,fun j hj=>aF h ((k.each x hx).2.2.2 j hj)⟩⟩
theorem nil (w:World) (B:Nat):NwLs w B none 0 []:=⟨World.ownsRow_nil _ 0 _ 1,by simp [ap],fun h hh=>by cases hh⟩
theorem To (k:NwLs w B A c hs):∀h∈hs,uh w h:=fun h hh=>⟨(k.each h hh).1.rd,(k.each h hh).2.1,by have :=(k.each h hh).2.2.1;omega,fun e=>by
 rcases (k.each h hh).1.form with ⟨_,h1,h2⟩ |⟨g,h1,_⟩
 ·exact ⟨by rw [h2];rfl,h1⟩
 ·rw [e] at h1;cases h1⟩
theorem more {wa:World} {A':Option Addr} {c':Nat} {ms:List Ls} (k:NwLs w B A c hs) (XN:Fr [] w wa) (hm:∀h∈ms,Ints wa h.A h.c h.l∧Ra h.l∧h.l.length≤1048576∧∀k,k∈ap h.A→B≤k) (hf:Fr (ap A) wa w')
  (fJ:w'.ownsRow 0 22 1 (.slice A' (hs.length+ms.length) c') (hs.length+ms.length) (hs.map Ls.val++ms.map Ls.val)) (jf:∀k,k∈ap A'→k∈ap A∨k=wa.heap.size) (hB:B≤wa.heap.size):NwLs w' B A' c' (hs++ms):=by
 have ka:=k.keep XN
 have gh:∀x:Ls,Ints wa x.A x.c x.l→Ints w' x.A x.c x.l:=fun x hx=>hx.fr hf (fun j hj hm=>BR hx ka.row (by decide) j hj hm)
 refine ⟨by simpa using fJ,fun j hj=> ?_,fun x hx=> ?_⟩
 ·rcases jf j hj with h1 |h1
  ·exact k.new j h1
  ·omega
 ·rcases ag.1 hx with h1 |h1
  ·have :=ka.each x h1
   exact ⟨gh x this.1,this.2⟩
  ·have :=hm x h1
   exact ⟨gh x this.1,this.2⟩
end NwLs
theorem qO (w:World) (ty:TypeId) (A:Option Addr) (c:Nat) (hs:List Ls) (dA:w.ownsRow 0 22 1 (.slice A hs.length c) hs.length (hs.map Ls.val)) (ad:Addr) (m d:Nat) (ms:List Ls) (hm:m=ms.length)
  (hr:∀j:Nat,j<ms.length→w.cell? (ad.add j)=some (ms[j]!).val) (hlen:hs.length+ms.length≤4194304):
  ∃A' cap w',(Builtin.append_ #[28,28] ty #[.slice A hs.length c, .slice (some ad) m d]).run Tryz.prog w= .ok (.slice A' (hs.length+m) cap) w'∧w'.ownsRow 0 22 1 (.slice A' (hs.length+ms.length) cap) (hs.length+ms.length) (hs.map Ls.val++ms.map Ls.val)∧Fr (ap A) w w'∧(∀k,k∈ap A'→k∈ap A∨k=w.heap.size)∧w.heap.size≤w'.heap.size:=by
 subst hm
 obtain ⟨A',cap,w',gU,h2,h3,h4,h5,h6,h7⟩:=fd w 28 ty 22 (.slice none 0 0) 1 24 Tryz.underlying28 oY rfl (by decide) A c hs.length (hs.map Ls.val) dA ad ms.length d (ms.map Ls.val) (by simp) (fun j u hu=>by
  simp only [aO,Option.map_eq_some_iff] at hu
  obtain ⟨y,hy,rfl⟩:=hu
  have hj:=(gK.1 hy).1
  have :=hr j hj
  rw [aa,hy] at this
  exact this) (by
   intro u hu
   obtain ⟨y,_,rfl⟩:=az.1 hu
   rfl) (by unfold maxLen;omega) (by omega)
 exact ⟨A',cap,w',gU,h2,h3,h4,h5⟩
theorem dP (w:World) {ops:Array Oper} {rest:List Oper} {o:Oper} {a:Act} {Q:Exit→Act→World→Prop} (ou:o.guard=none) (s x:Operand)
  (ho:o.op= .call { callee:= .builtin .append,args:=#[s,x],argTypes:=#[28,28] }) (A:Option Addr) (c:Nat) (hs:List Ls) (n:Nat) (PV:a.eval s= .slice A n c) (hn:n=hs.length) (dA:w.ownsRow 0 22 1 (.slice A hs.length c) hs.length (hs.map Ls.val))
  (ad:Addr) (m d:Nat) (ms:List Ls) (hx:a.eval x= .slice (some ad) m d) (hm:m=ms.length) (hr:∀j:Nat,j<ms.length→w.cell? (ad.add j)=some (ms[j]!).val) (hlen:hs.length+ms.length≤4194304)
  (h:∀A' cap w',w'.ownsRow 0 22 1 (.slice A' (hs.length+ms.length) cap) (hs.length+ms.length) (hs.map Ls.val++ms.map Ls.val)→Fr (ap A) w w'→(∀k,k∈ap A'→k∈ap A∨k=w.heap.size)→w.heap.size≤w'.heap.size→wpList Tryz.prog ops Q rest (a.put o.dst (.slice A' (n+m) cap)) w'):
  wpList Tryz.prog ops Q (o::rest) a w:=by
 subst hn
 refine wpList_plain ou fun K hK=> ?_
 obtain ⟨A',cap,w',gU,h2,h3,h4,h5⟩:=qO w o.type A c hs dA ad m d ms hm hr hlen
 unfold Oper.wp execOp
 simp only [ho,resolve,invoke,builtin,Sem.run_bind,Sem.run_pure,Result.andThen_ok,List.map_toArray,cM,dU,PV,hx,gU]
 exact hK _ _ (h A' cap w' h2 h3 h4 h5)
theorem Qz {x:Int} (h:dY x):Ra [x]:=fun j hj=>by
 have :j=0:=by simp at hj;omega
 subst this
 exact h
theorem He {C:Pc} (hv:Valid C) {f n:Int} (hf:0≤f∧f≤81) (hn:n≠0∧ -(C.bi.length:Int)≤n∧n≤C.bi.length):dY (iN C f n):=by
 have hb:=pb hv.m0 hv.m1 hf
 have hm:=hv.m1
 have key:∀j:Nat,j<C.bi.length→1≤dv (eZ C f) (C.bi[j]!).a∧dv (eZ C f) (C.bi[j]!).a≤1000000:=fun j hj=>by
  have :=gv hv j hj
  unfold dv
  rw [if_neg (by omega)]
  omega
 unfold iN dY
 split
 ·have :=key (-n-1).toNat (by omega)
  omega
 ·have :=key (n-1).toNat (by omega)
  omega
def FO (C:Pc) (i:Nat):List (List Int):=if (C.bi[i]!).c=0 then [[iN C 0 (-(i:Int)-1)]] else if (C.bi[i]!).c=1 then [[iN C 0 ((i:Int)+1)]] else []
def qi (C:Pc) (k:Nat):List (List Int):=(List.range k).flatMap (FO C)
theorem zf (C:Pc) (k:Nat):qi C (k+1)=qi C k++FO C k:=by
 unfold qi
 rw [List.range_succ,List.flatMap_append]
 simp
theorem wg (C:Pc) (k:Nat):(qi C k).length≤k:=by
 induction k with
 |zero=>simp [qi]
 |succ k ih=>
  rw [zf,ai]
  have :(FO C k).length≤1:=by unfold FO;split<;>(try split)<;>simp
  omega
theorem zA (w:World) (H:Hd) (C:Pc) (h:iy w H C) (hv:Valid C):
  Calls Tryz.prog 32 #[eX H C] w fun e w'=>∃A c hs,e= .returned (.slice A hs.length c)∧NwLs w' w.heap.size A c hs∧hs.map (·.l)=qi C C.bi.length∧Fr [] w w':=by
 have HX:=ae (Cx.start w H C)
 have KR:=ae (iF _ H C (h.keep HX.o.fr) hv 0 (by omega))
 have KL:=ae (fun W (hW:Fr [] w W) n hn=>mG W H C (h.keep hW) hv 0 (by omega) n hn)
 have NL:=hv.l
 have HH:=ae h
 have rO:=ae h.lr
 clear h
 obtain ⟨mx,ins,bi,outs,a8,aZ,aG,b8⟩:=C
 obtain ⟨iA,iC,lA,lC,oA,oC,bA,bC,vA,vC,gA,gC,nA,nC⟩:=H
 simp only [eX,kj] at *
 obtain ⟨c0,c1,c2,c3,c4,c5,c6,c7⟩:=HX.o.cells
 go_enter Tryz.func32,Tryz.ntmps32
 go_wp2_with fail
 refine KR.o.mono ?_
 rintro e w1 ⟨rfl,cU⟩
 have lP:=ae (HX.o.keep cU)
 obtain ⟨e0,e1,e2,e3,e4,e5,e6,e7⟩:=lP.o.cells
 clear cU c0 c1 c2 c3 c4 c5 c6 c7 KR
 go_wp2_with fail
 go_loopg [3,12] bi.length (fun g x3 UH wr=>∃(k:Nat) (A':Option Addr) (c':Nat) (hs:List Ls),k+g=bi.length∧x3= .slice A' hs.length c'∧UH= .int .i64 k∧al (NwLs wr (w.heap.size+1) A' c' hs)∧al (hs.map (·.l)=qi ⟨mx,ins,bi,outs,a8,aZ,aG,b8⟩ k)∧al (Cx w wr ⟨iA,iC,lA,lC,oA,oC,bA,bC,vA,vC,gA,gC,nA,nC⟩ ⟨mx,ins,bi,outs,a8,aZ,aG,b8⟩))
 case atStart=>exact ⟨0,none,0,[],by omega,rfl,rfl,NwLs.nil _ _,rfl,lP.o⟩
 case round=>
  obtain ⟨k,A',c',hs,hk,rfl,rfl,HN,HE,iU⟩:=hrel
  have HK:=ae hk
  have ly:k≤bi.length:=by omega
  have DT:hs.length≤k:=by
   have :=wg ⟨mx,ins,bi,outs,a8,aZ,aG,b8⟩ k
   rw [←HE.o,aq] at this
   exact this
  obtain ⟨d0,d1,d2,d3,d4,d5,d6,d7⟩:=iU.o.cells
  clear hk lP e0 e1 e2 e3 e4 e5 e6 e7
  by_cases bM:k<bi.length
  ·obtain ⟨b,o,x,y,z,hA,he,cx,cy,cz,hx,hy,hz⟩:=(HH.o.keep iU.o.fr).l.one rO.o bM
   simp only at hA he
   subst hA
   have oI:=ae (zf ⟨mx,ins,bi,outs,a8,aZ,aG,b8⟩ k)
   have cU:FO ⟨mx,ins,bi,outs,a8,aZ,aG,b8⟩ k=if z=0 then [[iN ⟨mx,ins,bi,outs,a8,aZ,aG,b8⟩ 0 (-(k:Int)-1)]] else if z=1 then [[iN ⟨mx,ins,bi,outs,a8,aZ,aG,b8⟩ 0 ((k:Int)+1)]] else []:=by
    unfold FO
    simp only [he.o]
   have dy:=ae cU
   clear cU
   by_cases vG:z=0
   ·have b0:(z==(0:Int))=true:=by simp [vG]
    rw [if_pos vG] at dy
    clear vG
    go_upto_region 7 with fail
    obtain ⟨wx,qu⟩:∃W,wr.alloc (.cells #[.int .i64 x, .int .i64 y, .int .i64 z] 40)=W:=⟨_,rfl⟩
    have xx:At wx wr.heap.size 40 #[.int .i64 x, .int .i64 y, .int .i64 z]:=qu▸At.new _ _ _
    have nD:al (Fr [] wr wx):=qu▸aN _ _
    have f2:=xx.cell 2
    simp at f2
    have AU:=ae (iU.o.keep nD.o)
    obtain ⟨e0,e1,e2,e3,e4,e5,e6,e7⟩:=AU.o.cells
    rw [qu]
    clear qu xx d0 d1 d2 d3 d4 d5 d6 d7
    have DB:=ae (KL.o wx AU.o.fr (-(k:Int)-1) (by show _∧ -(bi.length:Int)≤_∧_≤(bi.length:Int);omega))
    obtain ⟨v,lK⟩:∃v,iN ⟨mx,ins,bi,outs,a8,aZ,aG,b8⟩ 0 (-(k:Int)-1)=v:=⟨_,rfl⟩
    rw [lK] at DB dy
    have vI:dY v:=by
     rw [←lK]
     exact He hv (by omega) (by simp only;omega)
    have uQ:=ae vI
    clear lK vI
    have dO:IntKind.i64.wrap (-(k:Int))= -(k:Int):=IntWalk.i64_in _ (by omega)
    have mD:IntKind.i64.wrap (-(k:Int)-1)= -(k:Int)-1:=IntWalk.i64_in _ (by omega)
    go_wp2_with fail
    refine DB.o.mono ?_
    clear DB
    rintro e w3 ⟨rfl,dD⟩
    have cZ:=ae (nD.o.aj dD)
    clear dD e0 e1 e2 e3 e4 e5 e6 e7 f2 cx cy cz
    obtain ⟨wb,eR⟩:∃W,(w3.alloc (.cells #[.int .i64 v] 3)).alloc (.cells #[.slice (some ⟨w3.heap.size,0,none⟩) 1 1] 22)=W:=⟨_,rfl⟩
    have lR:al (Ints wb (some ⟨w3.heap.size,0,none⟩) 1 [v]):=eR▸(j8 w3 [v] (by simp [maxLen])).alloc _
    have fE:al (Fr [] w3 wb):=eR▸((aN _ _).aj (aN _ _))
    have mR:wb.cell? ⟨w3.heap.size+1,0,none⟩=some (.slice (some ⟨w3.heap.size,0,none⟩) 1 1):=by
     have :=(At.new (w3.alloc (.cells #[.int .i64 v] 3)) 22 #[.slice (some ⟨w3.heap.size,0,none⟩) 1 1]).cell 0
     rw [eR] at this
     simpa using this
    have xq:=ae mR
    have pQ:al (w.heap.size+1≤w3.heap.size):=(aF iU.o.bx.lt cZ.o.size:w.heap.size+1≤w3.heap.size)
    go_wp2_with (at_builtin;(refine dP _ rfl _ _ rfl A' c' hs hs.length rfl rfl (HN.o.keep (cZ.o.aj fE.o)).row ⟨w3.heap.size+1,0,none⟩ 1 1 [⟨some ⟨w3.heap.size,0,none⟩,1,[v]⟩] rfl rfl (fun j hj=>by (have :j=0:=by simpa using hj);subst this;rw [dJ];exact xq.o) (by simp;omega) ?_;intro A4 c4 w4 Ak eW Hv LC;have um:=ae ((HN.o.keep cZ.o).more fE.o (fun h hh=>by (have :=ah.1 hh);subst this;exact ⟨lR.o,Qz uQ.o,by simp,fun k hk=>by simp [ap] at hk;subst hk;exact pQ.o⟩) eW Ak Hv (aF pQ.o fE.o.size));have nu:al (Cx w w4 ⟨iA,iC,some ⟨b,o,none⟩,lC,oA,oC,bA,bC,vA,vC,gA,gC,nA,nC⟩ ⟨mx,ins,bi,outs,a8,aZ,aG,b8⟩):=⟨((iU.o.fr.aj cZ.o).aj fE.o).trans eW (fun k hk=> .inr (by have :=HN.o.new k hk;omega)),eW.at_ ((iU.o.bx.keep cZ.o).keep fE.o) (fun hm=>by have :=HN.o.new _ hm;omega)⟩;clear Ak eW Hv LC mR))
    clear eR
    go_roundg (gk-1)
    case measure=>have :=HK.o;omega
    case rel=>exact ⟨k+1,A4,c4,hs++[(⟨some ⟨w3.heap.size,0,none⟩,1,[v]⟩:Ls)],by have :=HK.o;omega,by simp,by go_num,um.o,(by rw [bJ,HE.o,oI.o,dy.o];rfl :_=_),nu.o⟩
   ·have b0:(z==(0:Int))=false:=by simp [vG]
    rw [if_neg vG] at dy
    by_cases nc:z=1
    ·have b1:(z==(1:Int))=true:=by simp [nc]
     rw [if_pos nc] at dy
     clear vG nc
     go_upto_region 7 with fail
     obtain ⟨wx,qu⟩:∃W,wr.alloc (.cells #[.int .i64 x, .int .i64 y, .int .i64 z] 40)=W:=⟨_,rfl⟩
     have xx:At wx wr.heap.size 40 #[.int .i64 x, .int .i64 y, .int .i64 z]:=qu▸At.new _ _ _
     have nD:al (Fr [] wr wx):=qu▸aN _ _
     have f2:=xx.cell 2
     simp at f2
     have AU:=ae (iU.o.keep nD.o)
     obtain ⟨e0,e1,e2,e3,e4,e5,e6,e7⟩:=AU.o.cells
     rw [qu]
     clear qu xx d0 d1 d2 d3 d4 d5 d6 d7
     have DB:=ae (KL.o wx AU.o.fr ((k:Int)+1) (by show _∧ -(bi.length:Int)≤_∧_≤(bi.length:Int);omega))
     obtain ⟨v,lK⟩:∃v,iN ⟨mx,ins,bi,outs,a8,aZ,aG,b8⟩ 0 ((k:Int)+1)=v:=⟨_,rfl⟩
     rw [lK] at DB dy
     have vI:dY v:=by
      rw [←lK]
      exact He hv (by omega) (by simp only;omega)
     have uQ:=ae vI
     clear lK vI
     have dO:IntKind.i64.wrap ((k:Int)+1)=(k:Int)+1:=IntWalk.i64_in _ (by omega)
     go_wp2_with fail
     refine DB.o.mono ?_
     clear DB
     rintro e w3 ⟨rfl,dD⟩
     have cZ:=ae (nD.o.aj dD)
     clear dD e0 e1 e2 e3 e4 e5 e6 e7 f2 cx cy cz
     obtain ⟨wb,eR⟩:∃W,(w3.alloc (.cells #[.int .i64 v] 3)).alloc (.cells #[.slice (some ⟨w3.heap.size,0,none⟩) 1 1] 22)=W:=⟨_,rfl⟩
     have lR:al (Ints wb (some ⟨w3.heap.size,0,none⟩) 1 [v]):=eR▸(j8 w3 [v] (by simp [maxLen])).alloc _
     have fE:al (Fr [] w3 wb):=eR▸((aN _ _).aj (aN _ _))
     have mR:wb.cell? ⟨w3.heap.size+1,0,none⟩=some (.slice (some ⟨w3.heap.size,0,none⟩) 1 1):=by
      have :=(At.new (w3.alloc (.cells #[.int .i64 v] 3)) 22 #[.slice (some ⟨w3.heap.size,0,none⟩) 1 1]).cell 0
      rw [eR] at this
      simpa using this
     have xq:=ae mR
     have pQ:al (w.heap.size+1≤w3.heap.size):=(aF iU.o.bx.lt cZ.o.size:w.heap.size+1≤w3.heap.size)
     go_wp2_with (at_builtin;(refine dP _ rfl _ _ rfl A' c' hs hs.length rfl rfl (HN.o.keep (cZ.o.aj fE.o)).row ⟨w3.heap.size+1,0,none⟩ 1 1 [⟨some ⟨w3.heap.size,0,none⟩,1,[v]⟩] rfl rfl (fun j hj=>by (have :j=0:=by simpa using hj);subst this;rw [dJ];exact xq.o) (by simp;omega) ?_;intro A4 c4 w4 Ak eW Hv LC;have um:=ae ((HN.o.keep cZ.o).more fE.o (fun h hh=>by (have :=ah.1 hh);subst this;exact ⟨lR.o,Qz uQ.o,by simp,fun k hk=>by simp [ap] at hk;subst hk;exact pQ.o⟩) eW Ak Hv (aF pQ.o fE.o.size));have nu:al (Cx w w4 ⟨iA,iC,some ⟨b,o,none⟩,lC,oA,oC,bA,bC,vA,vC,gA,gC,nA,nC⟩ ⟨mx,ins,bi,outs,a8,aZ,aG,b8⟩):=⟨((iU.o.fr.aj cZ.o).aj fE.o).trans eW (fun k hk=> .inr (by have :=HN.o.new k hk;omega)),eW.at_ ((iU.o.bx.keep cZ.o).keep fE.o) (fun hm=>by have :=HN.o.new _ hm;omega)⟩;clear Ak eW Hv LC mR))
     clear eR
     go_roundg (gk-1)
     case measure=>have :=HK.o;omega
     case rel=>exact ⟨k+1,A4,c4,hs++[(⟨some ⟨w3.heap.size,0,none⟩,1,[v]⟩:Ls)],by have :=HK.o;omega,by simp,by go_num,um.o,(by rw [bJ,HE.o,oI.o,dy.o];rfl :_=_),nu.o⟩
    ·have b1:(z==(1:Int))=false:=by simp [nc]
     rw [if_neg nc] at dy
     clear vG nc
     go_upto_region 7 with fail
     obtain ⟨wx,qu⟩:∃W,wr.alloc (.cells #[.int .i64 x, .int .i64 y, .int .i64 z] 40)=W:=⟨_,rfl⟩
     have xx:At wx wr.heap.size 40 #[.int .i64 x, .int .i64 y, .int .i64 z]:=qu▸At.new _ _ _
     have nD:al (Fr [] wr wx):=qu▸aN _ _
     have f2:=xx.cell 2
     simp at f2
     have AU:=ae (iU.o.keep nD.o)
     obtain ⟨e0,e1,e2,e3,e4,e5,e6,e7⟩:=AU.o.cells
     rw [qu]
     clear qu xx d0 d1 d2 d3 d4 d5 d6 d7
     go_wp2
     go_roundg (gk-1)
     case measure=>have :=HK.o;omega
     case rel=>exact ⟨k+1,A',c',hs,by have :=HK.o;omega,rfl,by go_num,HN.o.keep nD.o,(by rw [HE.o,oI.o,dy.o,bU]:_=_),iU.o.keep nD.o⟩
  ·obtain rfl :k=bi.length:=by omega
   clear HK
   go_wp2
   go_ret
   exact ⟨A',c',hs,rfl,HN.o.low (by omega),HE.o,iU.o.fr⟩
def yA (C:Pc) (l:List Int):Bool:= !(fK (C.bi.length:Int) l==0)
theorem adW (W:World) (g:Nat) (A:Option Addr) (n c:Nat) (hc:W.cell? ⟨g,2,none⟩=some (.slice A n c)) (C:Pc) (hn:n=C.bi.length) (h:Ls) (hk:uh W h):
    Calls Tryz.prog 38 #[h.val, .pointer (some ⟨g,0,none⟩)] W fun e w'=>e= .returned (.bool (yA C h.l))∧Fr [] W w':=by
  subst hn
  obtain ⟨B,d,l⟩:=h
  have KL:=ae (gX W (C.bi.length:Int) B d l hk.1 hk.2.1)
  show Calls Tryz.prog 38 #[.slice B l.length d, .pointer (some ⟨g,0,none⟩)] W fun e w'=>e= .returned (.bool (yA C l))∧Fr [] W w'
  obtain ⟨k,VX⟩:∃k,fK (C.bi.length:Int) l=k:=⟨_,rfl⟩
  rw [VX] at KL
  have hu:yA C l=(k !=0):=by unfold yA;rw [VX];rfl
  rw [hu]
  clear hk VX hu
  go_enter Tryz.func38,Tryz.ntmps38
  go_wp2_with fail
  refine KL.o.mono ?_
  rintro e w2 ⟨rfl,hf⟩
  have HF:=ae hf
  clear hf
  go_wp2
  go_ret
  exact ⟨rfl,HF.o⟩
theorem C5:∀args w,(callFunc 38 args).run Tryz.prog w= .ok (.enter 38 args) w:=enters_of Tryz.func38 (by kernel_rfl) rfl
open Classical in
noncomputable def uY (q:Qn):Int:=
  if ¬Valid q.C then 9
  else if q.bad<0∨(q.C.a8.length:Int)≤q.bad∨q.dep<0∨80≤q.dep∨q.xG<0∨1099511627776<q.xG then 4
  else if 64<(q.am.length:Int)∨64<(q.ls.length:Int)∨256<(q.ks.length:Int) then 3
  else if (q.am.any fun h=>pj q.C.mx h.l)=true∨(q.ls.any fun h=>pj q.C.mx h.l)=true then 23
  else if (q.ks.any fun h=>yA q.C h.l)=true then 23 else 0
set_option maxRecDepth 100000 in
theorem zx (w:World) (H:Qh) (q:Qn) (h:m8 w H q):
    Calls Tryz.prog 21 #[jv H q] w fun e w'=>e= .returned (.int .i64 (uY q))∧Fr [] w w':=by
  obtain ⟨w1,dO⟩:∃W,w.alloc (.cells (jR H q) 30)=W:=⟨_,rfl⟩
  obtain ⟨w2,mD⟩:∃W,w1.alloc (.cells (kj H.H q.C) 27)=W:=⟨_,rfl⟩
  have cU:Fr [] w w1:=dO▸eE _ _
  have bZ:Fr [] w1 w2:=mD▸eE _ _
  have cH:=ae (cU.aj bZ)
  have tj:At w1 w.heap.size 30 (jR H q):=dO▸At.new _ _ _
  have oH:=ae (tj.keep bZ)
  have oK:al (At w2 w1.heap.size 27 (kj H.H q.C)):=mD▸At.new _ _ _
  have HH:=ae (h.keep cH.o)
  have nq:w1.heap.size=w.heap.size+1:=by rw [←dO];simp
  obtain ⟨r,hr⟩:∃r,uY q=r:=⟨_,rfl⟩
  rw [hr]
  have HR:=ae hr
  have KC:=ae (oE w2 H.H q.C HH.o.c)
  have KST:=ae (fun W=>zL W H.H q.C)
  obtain ⟨⟨mx,ins,bi,outs,a8,aZ,aG,b8⟩,am,ls,ks,bad,dep,xG⟩:=q
  obtain ⟨⟨iA,iC,lA,lC,oA,oC,bA,bC,vA,vC,gA,gC,nA,nC⟩,aA,aC,mA,mC,kA,kC⟩:=H
  simp only [jv,jR,eX,kj] at *
  have p0:=tj.cell 0
  have p1:=tj.cell 1
  have p2:=tj.cell 2
  have p3:=tj.cell 3
  have p4:=tj.cell 4
  have p5:=tj.cell 5
  have p6:=tj.cell 6
  have p7:=tj.cell 7
  have q0:=oH.o.cell 0
  have q1:=oH.o.cell 1
  have q2:=oH.o.cell 2
  have q3:=oH.o.cell 3
  have q4:=oH.o.cell 4
  have q5:=oH.o.cell 5
  have q6:=oH.o.cell 6
  have q7:=oH.o.cell 7
  have q8:=oH.o.cell 8
  have q9:=oH.o.cell 9
  have jo:=oH.o.cell 10
  have jI:=oH.o.cell 11
  have jH:=oH.o.cell 12
  have jG:=oH.o.cell 13
  have c0:=oK.o.cell 0
  have c1:=oK.o.cell 1
  have c2:=oK.o.cell 2
  have c3:=oK.o.cell 3
  have c4:=oK.o.cell 4
  have c5:=oK.o.cell 5
  have c6:=oK.o.cell 6
  have c7:=oK.o.cell 7
  simp at p0 p1 p2 p3 p4 p5 p6 p7
  simp at q0 q1 q2 q3 q4 q5 q6 q7 q8 q9 jo jI jH jG c0 c1 c2 c3 c4 c5 c6 c7
  rw [nq] at c0 c1 c2 c3 c4 c5 c6 c7
  have HS:=ae nq
  clear h hr cU bZ tj
  go_enter Tryz.func21,Tryz.ntmps21
  go_upto_region 2 with fail
  go_wp2_with fail
  refine KC.o.mono ?_
  clear KC p0 p1 p2 p3 p4 p5 p6 p7 q0 q1 q2 q3 q4 q5 q6 q7 q8 q9 jo jI jH jG c0 c1 c2 c3 c4 c5 c6 c7 dO mD
  rintro e w3 ⟨hc,dD⟩
  have cZ:=ae (cH.o.aj dD)
  have AV:=ae (oH.o.keep dD)
  have DN:=ae (oK.o.keep dD)
  have Qe:=ae (HH.o.keep dD)
  have HVD:al ((e= .returned (.int .i64 0)∧Valid ⟨mx,ins,bi,outs,a8,aZ,aG,b8⟩)∨(e= .returned (.int .i64 9)∧¬Valid ⟨mx,ins,bi,outs,a8,aZ,aG,b8⟩)):=hc
  clear hc dD oH oK HH
  rcases HVD.o with ⟨rfl,hv⟩ |⟨rfl,hv⟩
  · have HV:=ae hv
    clear hv HVD
    have q8:=AV.o.cell 8
    have q9:=AV.o.cell 9
    have jo:=AV.o.cell 10
    have jI:=AV.o.cell 11
    have jH:=AV.o.cell 12
    have jG:=AV.o.cell 13
    have c4:=DN.o.cell 4
    simp at q8 q9 jo jI jH jG c4
    rw [nq] at c4
    by_cases h1:bad<0
    · have d1:decide (bad<0)=true:=decide_eq_true (by omega)
      have kd:r=4:=by rw [←HR.o];unfold uY;rw [if_neg (fun h=>h HV.o),if_pos (by simp only;omega)]
      subst kd
      clear h1
      go_wp2
      go_ret
      exact ⟨rfl,cZ.o⟩
    · have d1:decide (bad<0)=false:=decide_eq_false (by omega)
      by_cases h2:(a8.length:Int)≤bad
      · have d2:decide ((a8.length:Int)≤bad)=true:=decide_eq_true (by omega)
        have kd:r=4:=by rw [←HR.o];unfold uY;rw [if_neg (fun h=>h HV.o),if_pos (by simp only;omega)]
        subst kd
        clear h2
        go_wp2
        go_ret
        exact ⟨rfl,cZ.o⟩
      · have d2:decide ((a8.length:Int)≤bad)=false:=decide_eq_false (by omega)
        by_cases h3:dep<0
        · have d3:decide (dep<0)=true:=decide_eq_true (by omega)
          have kd:r=4:=by rw [←HR.o];unfold uY;rw [if_neg (fun h=>h HV.o),if_pos (by simp only;omega)]
          subst kd
          clear h3
          go_wp2
          go_ret
          exact ⟨rfl,cZ.o⟩
        · have d3:decide (dep<0)=false:=decide_eq_false (by omega)
          by_cases h4:80≤dep
          · have d4:decide (80≤dep)=true:=decide_eq_true (by omega)
            have kd:r=4:=by rw [←HR.o];unfold uY;rw [if_neg (fun h=>h HV.o),if_pos (by simp only;omega)]
            subst kd
            clear h4
            go_wp2
            go_ret
            exact ⟨rfl,cZ.o⟩
          · have d4:decide (80≤dep)=false:=decide_eq_false (by omega)
            by_cases h5:xG<0
            · have d5:decide (xG<0)=true:=decide_eq_true (by omega)
              have kd:r=4:=by rw [←HR.o];unfold uY;rw [if_neg (fun h=>h HV.o),if_pos (by simp only;omega)]
              subst kd
              clear h5
              go_wp2
              go_ret
              exact ⟨rfl,cZ.o⟩
            · have d5:decide (xG<0)=false:=decide_eq_false (by omega)
              by_cases h6:1099511627776<xG
              · have d6:decide (1099511627776<xG)=true:=decide_eq_true (by omega)
                have kd:r=4:=by rw [←HR.o];unfold uY;rw [if_neg (fun h=>h HV.o),if_pos (by simp only;omega)]
                subst kd
                clear h6
                go_wp2
                go_ret
                exact ⟨rfl,cZ.o⟩
              · have d6:decide (1099511627776<xG)=false:=decide_eq_false (by omega)
                by_cases h7:64<(am.length:Int)
                · have d7:decide (64<(am.length:Int))=true:=decide_eq_true (by omega)
                  have kd:r=3:=by rw [←HR.o];unfold uY;rw [if_neg (fun h=>h HV.o),if_neg (by simp only;omega),if_pos (by simp only;omega)]
                  subst kd
                  clear h7
                  go_wp2
                  go_ret
                  exact ⟨rfl,cZ.o⟩
                · have d7:decide (64<(am.length:Int))=false:=decide_eq_false (by omega)
                  by_cases h8:64<(ls.length:Int)
                  · have d8:decide (64<(ls.length:Int))=true:=decide_eq_true (by omega)
                    have kd:r=3:=by rw [←HR.o];unfold uY;rw [if_neg (fun h=>h HV.o),if_neg (by simp only;omega),if_pos (by simp only;omega)]
                    subst kd
                    clear h8
                    go_wp2
                    go_ret
                    exact ⟨rfl,cZ.o⟩
                  · have d8:decide (64<(ls.length:Int))=false:=decide_eq_false (by omega)
                    by_cases h9:256<(ks.length:Int)
                    · have d9:decide (256<(ks.length:Int))=true:=decide_eq_true (by omega)
                      have kd:r=3:=by rw [←HR.o];unfold uY;rw [if_neg (fun h=>h HV.o),if_neg (by simp only;omega),if_pos (by simp only;omega)]
                      subst kd
                      clear h9
                      go_wp2
                      go_ret
                      exact ⟨rfl,cZ.o⟩
                    · have d9:decide (256<(ks.length:Int))=false:=decide_eq_false (by omega)
                      have HI:al (uY ⟨⟨mx,ins,bi,outs,a8,aZ,aG,b8⟩,am,ls,ks,bad,dep,xG⟩=if (am.any fun h=>pj mx h.l)=true∨(ls.any fun h=>pj mx h.l)=true then 23 else if (ks.any fun h=>yA ⟨mx,ins,bi,outs,a8,aZ,aG,b8⟩ h.l)=true then 23 else 0):=by
                        show _=_
                        unfold uY
                        rw [if_neg (fun h=>h HV.o),if_neg (by simp only;omega),if_neg (by simp only;omega)]
                      rw [HR.o] at HI
                      have xT:=HV.o.m0
                      have vO:=HV.o.m1
                      simp only at xT vO
                      have KA:al (∀(l:List Ls) (A:Option Addr) (c:Nat),iS w3 A l→l.length≤17592186044416→∀(W:World) (g:Nat),W.cell? ⟨g,0,none⟩=some (.int .i64 mx)→Fr [] w3 W→Calls Tryz.prog 22 #[.slice A l.length c, .func (.func 72) #[] #[.pointer (some ⟨g,0,none⟩)]] W fun e w'=>e= .returned (.bool (l.any fun h=>pj mx h.l))∧Fr [] W w'):=
                        fun l A c hl hn W g hg hW=>kK W A c l 72 #[.pointer (some ⟨g,0,none⟩)] (pj mx) ub (hl.keep hW) hn (fun W' Oj h _ ok=>Mv W' g mx (Oj.aT hg) xT vO h ok)
                      have KB:al (∀W,Fr [] w3 W→Calls Tryz.prog 22 #[.slice kA ks.length kC, .func (.func 38) #[] #[.pointer (some ⟨w.heap.size+1,0,none⟩)]] W fun e w'=>e= .returned (.bool (ks.any fun h=>yA ⟨mx,ins,bi,outs,a8,aZ,aG,b8⟩ h.l))∧Fr [] W w'):=by
                        have c2:=DN.o.cell 2
                        simp at c2
                        rw [nq] at c2
                        have nI:=Qe.o.kL
                        simp only at nI
                        exact fun W hW=>kK W kA kC ks 38 #[.pointer (some ⟨w.heap.size+1,0,none⟩)] (yA ⟨mx,ins,bi,outs,a8,aZ,aG,b8⟩) C5 (Qe.o.k.keep hW) (by omega) (fun W' Oj h _ ok=>adW W' _ _ _ _ ((hW.aj Oj).aT c2) ⟨mx,ins,bi,outs,a8,aZ,aG,b8⟩ rfl h ok)
                      obtain ⟨a1,X3⟩:∃b,(am.any fun h=>pj mx h.l)=b:=⟨_,rfl⟩
                      obtain ⟨a2,vW⟩:∃b,(ls.any fun h=>pj mx h.l)=b:=⟨_,rfl⟩
                      obtain ⟨a3,ha3⟩:∃b,(ks.any fun h=>yA ⟨mx,ins,bi,outs,a8,aZ,aG,b8⟩ h.l)=b:=⟨_,rfl⟩
                      have KA1:=KA.o am aA aC Qe.o.a (by have :=Qe.o.aL;simp only at this;omega)
                      have KA2:=KA.o ls mA mC Qe.o.l (by have :=Qe.o.lL;simp only at this;omega)
                      rw [X3] at KA1 HI
                      rw [vW] at KA2 HI
                      rw [ha3] at HI KB
                      have KA1:=ae KA1
                      have KA2:=ae KA2
                      have c0:=DN.o.cell 0
                      have c1:=DN.o.cell 1
                      have c2:=DN.o.cell 2
                      have c3:=DN.o.cell 3
                      have c5:=DN.o.cell 5
                      have c6:=DN.o.cell 6
                      have c7:=DN.o.cell 7
                      simp at c0 c1 c2 c3 c5 c6 c7
                      rw [nq] at c0 c1 c2 c3 c5 c6 c7
                      have Tc:=ae c0
                      have yr:=ae c1
                      have Mi:=ae c2
                      have Xx:=ae c3
                      have Tb:=ae c4
                      have Xw:=ae c5
                      have Ta:=ae c6
                      have HD7:=ae c7
                      have PM:=ae q8
                      have Yn:=ae q9
                      have Xy:=ae jo
                      clear KA X3 vW ha3 xT vO c0 c1 c2 c3 c5 c6 c7
                      go_upto_region 8 with fail
                      clear c4 q8 q9 jo jI jH jG
                      cases a1 with
                      |true=>
                        have kd:r=23:=by rw [HI.o];rfl
                        subst kd
                        refine wp_region_noPanic ?_
                        refine bp (fun w':World=>Fr [] w3 w') 4 (by kernel_rfl) ((Fr.refl [] w3).drew) (fun db=> ?_)
                        refine pf 3 [(0,[]),(1,[1,4]),(2,[2,3,4])] db (fun w cm=>And.intro (cm.aT Tc.o) (And.intro (cm.aT yr.o) (And.intro (cm.aT Mi.o) (And.intro (cm.aT Xx.o) (And.intro (cm.aT Tb.o) (And.intro (cm.aT Xw.o) (And.intro (cm.aT Ta.o) (And.intro (cm.aT HD7.o) (And.intro (cm.aT PM.o) (cm.aT Yn.o)))))))))) ?_;intro db
                        refine R2 3 db fun K hK aH=> ?_
                        (go_simp;refine (KST.o _).mono ?_;rintro e w5 ⟨g5,rfl,RM,N1⟩;dsimp only)
                        refine hK.out _ _ (.inr ?_) (fun Hy=> ?_)
                        · first |exact aH.aj jg |exact aH.aj RN |exact aH.aj fN |exact aH.aj N1 |exact aH
                        clear hK K
                        try simp only [Act.put,q5,q6,q7]
                        refine R2 4 Hy fun K hK aH=> ?_
                        (go_simp;refine (KA1.o _ _ RM aH).mono ?_;rintro e w6 ⟨rfl,fN⟩;dsimp only)
                        refine hK.out _ _ (.inl rfl) (fun D2=> ?_)
                        clear hK K
                        try simp only [Act.put,q5,q6,q7]
                        repeat' first
                          |exact bY.nil
                          |refine bY.cons rfl ?_ ?_
                          | (intro K hK
                             go_simp
                             refine hK.out _ _ (.inl rfl) (fun hTx=> ?_)
                             clear hK K
                             try simp only [Act.put,q5,q6,q7])
                          |refine aU (rs:=[5]) (by decide+kernel) (by simp) ?_
                          |refine aU (rs:=[6,8]) (by decide+kernel) (by simp) ?_
                          |refine aU (rs:=[7,8]) (by decide+kernel) (by simp) ?_
                          |refine aU (rs:=[8]) (by decide+kernel) (by simp) ?_
                          |refine aU (rs:=[9]) (by decide+kernel) (by simp) ?_
                          |refine aU (rs:=[10]) (by decide+kernel) (by simp) ?_
                          |refine aU (rs:=[11]) (by decide+kernel) (by simp) ?_
                          |refine aU (rs:=[12]) (by decide+kernel) (by simp) ?_
                          |refine aU (rs:=[7,9]) (by decide+kernel) (by simp) ?_
                          |refine aU (rs:=[7]) (by decide+kernel) (by simp) ?_
                          |refine aU (rs:=[6,9]) (by decide+kernel) (by simp) ?_
                          |refine aU (rs:=[6]) (by decide+kernel) (by simp) ?_
                          | (refine kZ (by decide+kernel) ?_ _
                             refine NoPanic.normal ?_
                             have uo:=ae (aH.aj fN)
                             clear aH fN
                             go_wp2
                             go_ret
                             exact ⟨rfl,cZ.o.aj uo.o⟩)
                      |false=>
                        refine wp_region_noPanic ?_
                        refine bp (fun w':World=>Fr [] w3 w') 10 (by kernel_rfl) ((Fr.refl [] w3).drew) (fun db=> ?_)
                        refine pf 3 [(0,[]),(1,[1,4,5,10]),(2,[2,3,4,5,10])] db (fun w cm=>And.intro (cm.aT Tc.o) (And.intro (cm.aT yr.o) (And.intro (cm.aT Mi.o) (And.intro (cm.aT Xx.o) (And.intro (cm.aT Tb.o) (And.intro (cm.aT Xw.o) (And.intro (cm.aT Ta.o) (And.intro (cm.aT HD7.o) (And.intro (cm.aT PM.o) (cm.aT Yn.o)))))))))) ?_;intro db
                        refine R2 3 db fun K hK aH=> ?_
                        (go_simp;refine (KST.o _).mono ?_;rintro e w5 ⟨g5,rfl,RM,N1⟩;dsimp only)
                        refine hK.out _ _ (.inr ?_) (fun Hy=> ?_)
                        · first |exact aH.aj jg |exact aH.aj RN |exact aH.aj fN |exact aH.aj N1 |exact aH
                        clear hK K
                        try simp only [Act.put,q5,q6,q7]
                        refine R2 4 Hy fun K hK aH=> ?_
                        (go_simp;refine (KA1.o _ _ RM aH).mono ?_;rintro e w6 ⟨rfl,fN⟩;dsimp only)
                        refine hK.out _ _ (.inr ?_) (fun D2=> ?_)
                        · first |exact aH.aj jg |exact aH.aj RN |exact aH.aj fN |exact aH.aj N1 |exact aH
                        clear hK K
                        try simp only [Act.put,q5,q6,q7]
                        refine pf 4 [(5,[]),(6,[]),(7,[7,10]),(8,[8,9,10])] D2 (fun w cm=>And.intro (cm.aT Tc.o) (And.intro (cm.aT yr.o) (And.intro (cm.aT Mi.o) (And.intro (cm.aT Xx.o) (And.intro (cm.aT Tb.o) (And.intro (cm.aT Xw.o) (And.intro (cm.aT Ta.o) (And.intro (cm.aT HD7.o) (And.intro (cm.aT PM.o) (cm.aT Yn.o)))))))))) ?_;intro D2
                        refine R2 9 D2 fun K hK aH=> ?_
                        (go_simp;refine (KST.o _).mono ?_;rintro e w7 ⟨g7,rfl,PZ,RN⟩;dsimp only)
                        refine hK.out _ _ (.inr ?_) (fun lJ=> ?_)
                        · first |exact aH.aj jg |exact aH.aj RN |exact aH.aj fN |exact aH.aj N1 |exact aH
                        clear hK K
                        try simp only [Act.put,q5,q6,q7]
                        refine R2 10 lJ fun K hK aH=> ?_
                        (go_simp;refine (KA2.o _ _ PZ aH).mono ?_;rintro e w8 ⟨rfl,jg⟩;dsimp only)
                        refine hK.out _ _ (.inl rfl) (fun mn=> ?_)
                        clear hK K
                        try simp only [Act.put,q5,q6,q7]
                        repeat' first
                          |exact bY.nil
                          |refine bY.cons rfl ?_ ?_
                          | (intro K hK
                             go_simp
                             refine hK.out _ _ (.inl rfl) (fun hTx=> ?_)
                             clear hK K
                             try simp only [Act.put,q5,q6,q7])
                          |refine aU (rs:=[11]) (by decide+kernel) (by simp) ?_
                          |refine aU (rs:=[12]) (by decide+kernel) (by simp) ?_
                          | (refine kZ (by decide+kernel) ?_ _
                             refine NoPanic.normal ?_
                             have uo:=ae (aH.aj jg)
                             clear aH jg
                             cases a2 with
                             |true=>
                               have kd:r=23:=by rw [HI.o];simp
                               subst kd
                               go_wp2
                               go_ret
                               exact ⟨rfl,cZ.o.aj uo.o⟩
                             |false=>
                               have jo:=uo.o.aT Xy.o
                               have KB8:=ae (KB.o _ uo.o)
                               cases a3 with
                               |true=>
                                 have kd:r=23:=by rw [HI.o];simp
                                 subst kd
                                 go_wp2_with fail
                                 refine KB8.o.mono ?_
                                 rintro e w9 ⟨rfl,ow⟩
                                 have tG:=ae (uo.o.aj ow)
                                 clear ow
                                 go_wp2
                                 go_ret
                                 exact ⟨rfl,cZ.o.aj tG.o⟩
                               |false=>
                                 have kd:r=0:=by rw [HI.o];simp
                                 subst kd
                                 go_wp2_with fail
                                 refine KB8.o.mono ?_
                                 rintro e w9 ⟨rfl,ow⟩
                                 have tG:=ae (uo.o.aj ow)
                                 clear ow
                                 go_wp2
                                 go_ret
                                 exact ⟨rfl,cZ.o.aj tG.o⟩)
  · have Bb:r=9:=by rw [←HR.o];unfold uY;rw [if_pos hv]
    subst Bb
    clear hv HVD
    go_wp2
    go_ret
    exact ⟨rfl,cZ.o⟩
theorem Bx {C:Pc} (h:Valid C) {v:Int} (hk:qc C v=true):v≤C.mx:=by
 simp only [qc,Bool.or_eq_true,decide_eq_true_eq,bI,hit,aD] at hk
 have h0:=h.m0
 rcases hk with ((rfl |⟨x,hx,_,rfl⟩) |⟨x,hx,_,rfl⟩) |⟨x,hx,_,rfl⟩
 ·exact h0
 ·have :=eh h x (by simp [cD,hx]);omega
 ·have :=eh h x.a (by simp only [cD,ag,az];exact .inl (.inr ⟨x,hx,rfl⟩));omega
 ·have :=eh h x.a (by simp only [cD,ag,az];exact .inr ⟨x,hx,rfl⟩);omega
theorem km {C:Pc} (h:Valid C) {l:Int} (hk:gT C l=true):0≤l∧l≤2*C.mx+1:=by
 simp only [gT,aD,decide_eq_true_eq] at hk
 have :=Bx h hk.2
 omega
theorem uW {C:Pc} (h:Valid C) (j:Nat) (hj:j<C.bi.length):0≤(C.bi[j]!).b∧(C.bi[j]!).b≤2*C.mx+1:=by
 have h2:=h.bi j hj
 simp only [M0,aD] at h2
 exact km h h2.2
theorem oh {b l:Int} (hb:0≤b∧b≤262144) (hl:0≤l∧l≤4097): -1000000≤dv b l∧dv b l≤1000000:=by
 unfold dv
 split<;>omega
theorem uD {C:Pc} (hv:Valid C) {f n:Int} (hf:0≤f∧f≤81) (hn:n≠0∧ -(C.bi.length:Int)≤n∧n≤C.bi.length): -1000000≤iN C f n∧iN C f n≤1000000:=by
 have hb:=pb hv.m0 hv.m1 hf
 have hm:=hv.m1
 have key:∀j:Nat,j<C.bi.length→ -1000000≤dv (eZ C f) (C.bi[j]!).a∧dv (eZ C f) (C.bi[j]!).a≤1000000:=fun j hj=>oh (by omega) (by have :=gv hv j hj;omega)
 unfold iN
 split
 ·have :=key (-n-1).toNat (by omega)
  omega
 ·have :=key (n-1).toNat (by omega)
  omega
def I6 (C:Pc) (f:Int) (i:Nat):List (List Int):=[[iN C (f+1) ((i:Int)+1),-(dv (eZ C f) (C.bi[i]!).b)],[-(iN C (f+1) ((i:Int)+1)),dv (eZ C f) (C.bi[i]!).b]]
def og (C:Pc) (f:Int) (k:Nat):List (List Int):=(List.range k).flatMap (I6 C f)
theorem yT (C:Pc) (f:Int) (k:Nat):og C f (k+1)=og C f k++I6 C f k:=by
 unfold og
 rw [List.range_succ,List.flatMap_append]
 simp
theorem Cc (C:Pc) (f:Int) (k:Nat):(og C f k).length=2*k:=by
 induction k with
 |zero=>simp [og]
 |succ k ih=>
  rw [yT,ai,ih]
  simp [I6]
  omega
theorem Qy {x y:Int} (h:dY x) (h2:dY y):Ra [x,y]:=fun j hj=>by
 have :j=0∨j=1:=by simp at hj;omega
 rcases this with rfl |rfl
 ·exact h
 ·exact h2
theorem BD (w:World) (H:Hd) (C:Pc) (h:iy w H C) (hv:Valid C) (f:Int) (hf:0≤f∧f≤79):
  Calls Tryz.prog 34 #[eX H C, .int .i64 f] w fun e w'=>∃A c hs,e= .returned (.slice A hs.length c)∧NwLs w' w.heap.size A c hs∧hs.map (·.l)=og C f C.bi.length∧Fr [] w w':=by
 have HX:=ae (Cx.start w H C)
 have KR:=ae (iF _ H C (h.keep HX.o.fr) hv f (by omega))
 have KL:=ae (fun W (hW:Fr [] w W) n hn=>mG W H C (h.keep hW) hv (f+1) (by omega) n hn)
 have KB:=ae (fun W=>ld W H C hv.m0 hv.m1 f (by omega))
 have hb:=pb hv.m0 hv.m1 (f:=f) (by omega)
 have KT:=ae (fun W x (hx:0≤x∧x≤4097)=>ss W (eZ C f) x (by omega) hx)
 have Iy:=ae (fun x (hx:0≤x∧x≤4097)=>oh (b:=eZ C f) (l:=x) (by omega) hx)
 have yq:=ae (fun n hn=>uD hv (f:=f+1) (n:=n) (by omega) hn)
 have oI:=ae (fun j hj=>uW hv j hj)
 have qx:=hv.m1
 have NL:=hv.l
 have HH:=ae h
 have rO:=ae h.lr
 have hwf:IntKind.i64.wrap (f+1)=f+1:=IntWalk.i64_in _ (by omega)
 clear h hb hv
 obtain ⟨mx,ins,bi,outs,a8,aZ,aG,b8⟩:=C
 obtain ⟨iA,iC,lA,lC,oA,oC,bA,bC,vA,vC,gA,gC,nA,nC⟩:=H
 simp only [eX,kj] at *
 obtain ⟨c0,c1,c2,c3,c4,c5,c6,c7⟩:=HX.o.cells
 go_enter Tryz.func34,Tryz.ntmps34
 go_wp2_with fail
 refine KR.o.mono ?_
 rintro e w1 ⟨rfl,cU⟩
 have lP:=ae (HX.o.keep cU)
 obtain ⟨e0,e1,e2,e3,e4,e5,e6,e7⟩:=lP.o.cells
 clear cU c0 c1 c2 c3 c4 c5 c6 c7 KR
 go_wp2_with fail
 go_loopg [5,17] bi.length (fun g x5 UG wr=>∃(k:Nat) (A':Option Addr) (c':Nat) (hs:List Ls),k+g=bi.length∧x5= .slice A' hs.length c'∧UG= .int .i64 k∧al (NwLs wr (w.heap.size+1) A' c' hs)∧al (hs.map (·.l)=og ⟨mx,ins,bi,outs,a8,aZ,aG,b8⟩ f k)∧al (Cx w wr ⟨iA,iC,lA,lC,oA,oC,bA,bC,vA,vC,gA,gC,nA,nC⟩ ⟨mx,ins,bi,outs,a8,aZ,aG,b8⟩))
 case atStart=>exact ⟨0,none,0,[],by omega,rfl,rfl,NwLs.nil _ _,rfl,lP.o⟩
 case round=>
  obtain ⟨k,A',c',hs,hk,rfl,rfl,HN,HE,iU⟩:=hrel
  have HK:=ae hk
  have ly:k≤bi.length:=by omega
  have DT:hs.length=2*k:=by
   have :=Cc ⟨mx,ins,bi,outs,a8,aZ,aG,b8⟩ f k
   rw [←HE.o,aq] at this
   exact this
  obtain ⟨d0,d1,d2,d3,d4,d5,d6,d7⟩:=iU.o.cells
  clear hk lP e0 e1 e2 e3 e4 e5 e6 e7
  by_cases bM:k<bi.length
  ·obtain ⟨b,o,x,y,z,hA,he,cx,cy,cz,hx,hy,hz⟩:=(HH.o.keep iU.o.fr).l.one rO.o bM
   simp only at hA he
   subst hA
   have Cn:=oI.o k bM
   try simp only at Cn
   rw [he.o] at Cn
   try simp only at Cn
   have yp:=ae (yT ⟨mx,ins,bi,outs,a8,aZ,aG,b8⟩ f k)
   obtain ⟨u,hu⟩:∃u,dv (eZ ⟨mx,ins,bi,outs,a8,aZ,aG,b8⟩ f) y=u:=⟨_,rfl⟩
   obtain ⟨v,LA⟩:∃v,iN ⟨mx,ins,bi,outs,a8,aZ,aG,b8⟩ (f+1) ((k:Int)+1)=v:=⟨_,rfl⟩
   have cU:I6 ⟨mx,ins,bi,outs,a8,aZ,aG,b8⟩ f k=[[v,-u],[-v,u]]:=by
    unfold I6
    rw [LA]
    simp only [he.o]
    rw [hu]
   have dy:=ae cU
   have hur:=Iy.o y (by omega)
   have vI:=yq.o ((k:Int)+1) (by show _∧ -(bi.length:Int)≤_∧_≤(bi.length:Int);omega)
   rw [hu] at hur
   rw [LA] at vI
   have KTY:=fun W=>KT.o W y (by omega)
   simp only [hu] at KTY
   have KTY:=ae KTY
   clear cU
   go_upto_region 7 with fail
   obtain ⟨wx,qu⟩:∃W,wr.alloc (.cells #[.int .i64 x, .int .i64 y, .int .i64 z] 40)=W:=⟨_,rfl⟩
   have xx:At wx wr.heap.size 40 #[.int .i64 x, .int .i64 y, .int .i64 z]:=qu▸At.new _ _ _
   have nD:al (Fr [] wr wx):=qu▸aN _ _
   have f1:=xx.cell 1
   simp at f1
   have AU:=ae (iU.o.keep nD.o)
   obtain ⟨e0,e1,e2,e3,e4,e5,e6,e7⟩:=AU.o.ext
   have g1:=Ext.cell f1
   have DB:=fun u:Ext wx=>KL.o u.v (AU.o.fr.aj u.fr) ((k:Int)+1) (by show _∧ -(bi.length:Int)≤_∧_≤(bi.length:Int);omega)
   simp only [LA] at DB
   have DB:=ae DB
   have dO:IntKind.i64.wrap ((k:Int)+1)=(k:Int)+1:=IntWalk.i64_in _ (by omega)
   have mD:IntKind.i64.wrap (-u)= -u:=IntWalk.i64_in _ (by omega)
   have rf:IntKind.i64.wrap (-v)= -v:=IntWalk.i64_in _ (by omega)
   rw [qu]
   clear qu xx d0 d1 d2 d3 d4 d5 d6 d7 cx cy cz hu LA f1
   refine ax ?_
   repeat (go_big_quiet_step (first |exact bV (DB.o _) |exact bV (KB.o _) |exact bk (KTY.o _)))
   refine gO ?_
   intro w3 tF
   have cZ:=ae (nD.o.aj tF.o)
   clear e0 e1 e2 e3 e4 e5 e6 e7 g1 DB KTY tF
   obtain ⟨wb,eR⟩:∃W,((w3.alloc (.cells #[.int .i64 v, .int .i64 (-u)] 3)).alloc (.cells #[.int .i64 (-v), .int .i64 u] 3)).alloc (.cells #[.slice (some ⟨w3.heap.size,0,none⟩) 2 2, .slice (some ⟨w3.heap.size+1,0,none⟩) 2 2] 22)=W:=⟨_,rfl⟩
   have lR:al (Ints wb (some ⟨w3.heap.size,0,none⟩) 2 [v,-u]):=eR▸((j8 w3 [v,-u] (by simp [maxLen])).alloc _).alloc _
   have j5:al (Ints wb (some ⟨w3.heap.size+1,0,none⟩) 2 [-v,u]):=by
    have :=j8 (w3.alloc (.cells #[.int .i64 v, .int .i64 (-u)] 3)) [-v,u] (by simp [maxLen])
    rw [show (w3.alloc (.cells #[.int .i64 v, .int .i64 (-u)] 3)).heap.size=w3.heap.size+1 by simp] at this
    exact eR▸this.alloc _
   have fE:al (Fr [] w3 wb):=eR▸(((aN _ _).aj (aN _ _)).aj (aN _ _))
   have vV:At wb (w3.heap.size+2) 22 #[.slice (some ⟨w3.heap.size,0,none⟩) 2 2, .slice (some ⟨w3.heap.size+1,0,none⟩) 2 2]:=by
    have :=At.new ((w3.alloc (.cells #[.int .i64 v, .int .i64 (-u)] 3)).alloc (.cells #[.int .i64 (-v), .int .i64 u] 3)) 22 #[.slice (some ⟨w3.heap.size,0,none⟩) 2 2, .slice (some ⟨w3.heap.size+1,0,none⟩) 2 2]
    rw [show ((w3.alloc (.cells #[.int .i64 v, .int .i64 (-u)] 3)).alloc (.cells #[.int .i64 (-v), .int .i64 u] 3)).heap.size=w3.heap.size+2 by simp] at this
    exact eR▸this
   have Te:=ae vV
   clear vV
   have HUR:=ae hur
   have uQ:=ae vI
   have pQ:al (w.heap.size+1≤w3.heap.size):=(aF iU.o.bx.lt cZ.o.size:w.heap.size+1≤w3.heap.size)
   go_wp2_with (at_builtin;(refine dP _ rfl _ _ rfl A' c' hs hs.length rfl rfl (HN.o.keep (cZ.o.aj fE.o)).row ⟨w3.heap.size+2,0,none⟩ 2 2 [⟨some ⟨w3.heap.size,0,none⟩,2,[v,-u]⟩,⟨some ⟨w3.heap.size+1,0,none⟩,2,[-v,u]⟩] rfl rfl (fun j hj=>by (have :j=0∨j=1:=by simp at hj;omega);rcases this with rfl |rfl;(rw [dJ,Te.o.cell];rfl);(rw [dJ,Te.o.cell];rfl)) (by simp;omega) ?_;intro A4 c4 w4 Ak eW Hv LC;have um:=ae ((HN.o.keep cZ.o).more fE.o (fun h hh=>by (have hh2:=hh;simp only [av,cK,or_false] at hh2);rcases hh2 with rfl |rfl;(exact ⟨lR.o,Qy ⟨by have :=uQ.o;omega,by have :=uQ.o;omega⟩ ⟨by have :=HUR.o;omega,by have :=HUR.o;omega⟩,by simp,fun k hk=>by simp [ap] at hk;subst hk;exact pQ.o⟩);(exact ⟨j5.o,Qy ⟨by have :=uQ.o;omega,by have :=uQ.o;omega⟩ ⟨by have :=HUR.o;omega,by have :=HUR.o;omega⟩,by simp,fun k hk=>by simp [ap] at hk;subst hk;have :=pQ.o;omega⟩)) eW Ak Hv (aF pQ.o fE.o.size));have nu:al (Cx w w4 ⟨iA,iC,some ⟨b,o,none⟩,lC,oA,oC,bA,bC,vA,vC,gA,gC,nA,nC⟩ ⟨mx,ins,bi,outs,a8,aZ,aG,b8⟩):=⟨((iU.o.fr.aj cZ.o).aj fE.o).trans eW (fun k hk=> .inr (by have :=HN.o.new k hk;omega)),eW.at_ ((iU.o.bx.keep cZ.o).keep fE.o) (fun hm=>by have :=HN.o.new _ hm;omega)⟩;clear Ak eW Hv LC))
   clear eR
   go_roundg (gk-1)
   case measure=>have :=HK.o;omega
   case rel=>exact ⟨k+1,A4,c4,hs++[(⟨some ⟨w3.heap.size,0,none⟩,2,[v,-u]⟩:Ls),(⟨some ⟨w3.heap.size+1,0,none⟩,2,[-v,u]⟩:Ls)],by have :=HK.o;omega,by rw [ai,DT];rfl,by go_num,um.o,(by rw [bJ,HE.o,yp.o,dy.o];rfl :_=_),nu.o⟩
  ·obtain rfl :k=bi.length:=by omega
   clear HK
   go_wp2
   go_ret
   exact ⟨A',c',hs,rfl,HN.o.low (by omega),HE.o,iU.o.fr⟩
theorem qN (W:World) (n:Nat) (h1:n≤1099511627776):
  (Instr.makeSlice 22 (.int .i64 0) (.int .i64 (n:Int))).run Tryz.prog W= .ok (.slice (some ⟨W.heap.size,0,none⟩) 0 n) (W.alloc (.cells (madeCells #[.int .i64 0] n) 3)):=by
 obtain ⟨i0,hi,vG,nc,A8⟩:=info_parts kc
 have hr:=run_make (P:=Tryz.prog) W 22 3 i0 (.int .i64 0) Tryz.underlying22 hi vG .i64 .i64 0 n (by omega) (by omega) (by rw [A8];omega) (by omega)
 simp only [Int.toNat_natCast] at hr⊢
 rw [nc,mz] at hr
 exact hr
theorem Ca (W:World) (n:Nat) (h:n≤maxLen):Ints (W.alloc (.cells (madeCells #[.int .i64 0] n) 3)) (some ⟨W.heap.size,0,none⟩) n []:=by
 have :=(I4 W n h).py 0
 simpa using this
theorem qH (w:World) (H:Hd) (C:Pc) (h:iy w H C) (hv:Valid C) (b:Int) (hb:0≤b∧b≤262144):
  Calls Tryz.prog 87 #[eX H C, .int .i64 b] w fun e w'=>e= .returned (.int .i64 0)∧Fr [] w w':=by
 have HX:=ae (Cx.start w H C)
 have KC:al (Calls Tryz.prog 36 #[eX H C] (w.alloc (.cells (kj H C) 27)) fun e w'=>e= .returned (.int .i64 0)∧Fr [] (w.alloc (.cells (kj H C) 27)) w'):=(oE _ H C (h.keep HX.o.fr)).mono fun e w' ⟨h1,h2⟩=>by
  rcases h1 with ⟨h3,_⟩ |⟨_,h3⟩
  ·exact ⟨h3,h2⟩
  ·exact absurd hv h3
 have d0:decide (b<0)=false:=decide_eq_false (by omega)
 have d1:decide (262144<b)=false:=decide_eq_false (by omega)
 clear h hv
 obtain ⟨mx,ins,bi,outs,a8,aZ,aG,b8⟩:=C
 obtain ⟨iA,iC,lA,lC,oA,oC,bA,bC,vA,vC,gA,gC,nA,nC⟩:=H
 simp only [eX,kj] at *
 obtain ⟨c0,c1,c2,c3,c4,c5,c6,c7⟩:=HX.o.cells
 go_enter Tryz.func87,Tryz.ntmps87
 go_wp2_with fail
 refine KC.o.mono ?_
 rintro e w1 ⟨rfl,cU⟩
 have HF:=ae (HX.o.fr.aj cU)
 clear cU
 go_wp2
 go_ret
 exact ⟨rfl,HF.o⟩
theorem qV {α β:Type} [Inhabited α] (f:α→β) {l:List α} {k:Nat} (h:k<l.length):(l.take (k+1)).map f=(l.take k).map f++[f l[k]!]:=by
 rw [List.take_add_one,af h,fq,bJ]
 simp only [aa,af h,ay,cM,dU]
theorem xK (w:World) (b:Int) (hb:0≤b∧b≤262144) (A:Option Addr) (c:Nat) (l:List Int) (h:Rd w A l) (hr:∀x∈l,0≤x∧x≤4097) (hl:l.length≤1048576):
  Calls Tryz.prog 63 #[.int .i64 b, .slice A l.length c] w fun e w'=>∃A' c',e= .returned (.slice A' l.length c')∧Ints w' A' c' (l.map (dv b))∧(∀k,k∈ap A'→w.heap.size≤k)∧Fr [] w w':=by
 have KA:=ae (zm w b hb)
 have KL:=ae (fun W x (hx:0≤x∧x≤4097)=>mP W b x (by omega) (by omega))
 have HH:=ae h
 have HR:=ae hr
 have nv:al (Ra l):=(dW (p:=dY)).2 fun x hx=>by
  have :=hr x hx
  exact ⟨by omega,by omega⟩
 have HM:=ae (Ca w l.length (by unfold maxLen;omega))
 have LH:=qN w l.length (by omega)
 have xH:al (Fr [] w (w.alloc (.cells (madeCells #[.int .i64 0] l.length) 3))):=aN _ _
 obtain ⟨w1,dO⟩:∃W,w.alloc (.cells (madeCells #[.int .i64 0] l.length) 3)=W:=⟨_,rfl⟩
 rw [dO] at HM xH LH
 clear h hr
 go_enter Tryz.func63,Tryz.ntmps63
 go_wp2_with fail
 refine KA.o.mono ?_
 rintro e w0 ⟨rfl,rfl⟩
 go_wp2_with fail
 clear KA LH dO
 go_loopg [6,16] l.length (fun g x6 x16 wr=>∃(k:Nat) (A':Option Addr) (c':Nat) (ys:List Int),k+g=l.length∧x6= .slice A' ys.length c'∧x16= .int .i64 k∧al (Ints wr A' c' ys)∧al (ys=(l.take k).map (dv b))∧al (∀j,j∈ap A'→w.heap.size≤j)∧al (Fr [] w wr))
 case atStart=>exact ⟨0,_,_,[],by omega,rfl,rfl,HM.o,by show _=_;simp,fun j hj=>by simp [ap] at hj;omega,xH.o⟩
 case round=>
  obtain ⟨k,A',c',ys,hk,rfl,rfl,HI,HY,HN,HF⟩:=hrel
  have HK:=ae hk
  have ly:k≤l.length:=by omega
  have hyl:ys.length≤k:=by
   rw [HY.o,aq,aV]
   omega
  clear hk
  by_cases bM:k<l.length
  ·obtain ⟨ab,o,x,hA,he,cx,ij,ix⟩:=(HH.o.keep HF.o).one nv.o bM
   subst hA
   have oI:=ae (qV (dv b) bM)
   rw [he.o] at oI
   have xw:=HR.o x (by rw [←he.o];exact bu bM)
   have SD:=ae (KL.o wr x xw)
   have hmn:min x 4097=x:=by omega
   obtain ⟨t,ht⟩:∃t,dv b x=t:=⟨_,rfl⟩
   rw [ht] at SD oI
   clear ht
   go_wp2_with fail
   refine SD.o.mono ?_
   rintro e w3 ⟨rfl,rfl⟩
   obtain ⟨wb,eR⟩:∃W,wr.alloc (.cells #[.int .i64 t] 3)=W:=⟨_,rfl⟩
   have fE:al (Fr [] wr wb):=eR▸aN _ _
   have j3:wb.cell? ⟨wr.heap.size,0,none⟩=some (.int .i64 t):=by
    rw [←eR]
    exact (At.new wr 3 #[.int .i64 t]).cell 0
   go_wp2_with (at_builtin;(refine cT _ rfl _ _ rfl A' c' ys ys.length rfl rfl (HI.o.fr fE.o (fun _ _ hm=>by cases hm)) ⟨wr.heap.size,0,none⟩ 1 t rfl j3 (by omega) ?_;intro g cap w4 fJ qe hg PW;have Pi:=ae fJ;have fM:al (Fr [] w w4):=(HF.o.aj fE.o).trans qe (fun x hx=> .inr (HN.o x hx));have Pw:al (w.heap.size≤g):=(by rcases hg with h1 |h1;(exact HN.o g h1);(have :=HF.o.size;have :=fE.o.size;omega):w.heap.size≤g);clear j3 fJ qe hg PW))
   clear eR
   go_roundg (gk-1)
   case measure=>have :=HK.o;omega
   case rel=>exact ⟨k+1,some ⟨g,0,none⟩,cap,ys++[t],by have :=HK.o;omega,by simp,by go_num,Pi.o,(by rw [oI.o,HY.o]:ys++[t]=(l.take (k+1)).map (dv b)),fun j hj=>by simp [ap] at hj;subst hj;exact Pw.o,fM.o⟩
  ·obtain rfl :k=l.length:=by omega
   have hy:ys=l.map (dv b):=by rw [HY.o,eD]
   have Na:ys.length=l.length:=by rw [hy,aq]
   have HY2:=ae hy
   rw [Na]
   clear HK hy HY
   go_wp2
   go_ret
   exact ⟨A',c',rfl,by rw [←HY2.o];exact HI.o,HN.o,HF.o⟩
namespace Bools
variable {w w':World} {A:Option Addr} {c:Nat} {bs:List Bool}
theorem Ik {g:Nat} (h:Bools w (some ⟨g,0,none⟩) c bs) {i:Nat} (hi:i<bs.length):w.cell? ⟨g,i,none⟩=some (.bool (bs[i]!)):=by
 rw [World.ownsRow.cellAt h i (by omega)]
 simp only [aO,af hi,cu,aa,ay]
theorem uL {g:Nat} (h:Bools w (some ⟨g,0,none⟩) c bs) (i:Nat):w.frozen? ⟨g,i,none⟩=false:=World.ownsRow.frozenAt h i
theorem adY {g:Nat} (h:Bools w (some ⟨g,0,none⟩) c bs) (i:Nat) (x:Bool):Bools (w.setCell ⟨g,i,none⟩ (.bool x)) (some ⟨g,0,none⟩) c (bs.set i x):=by
 have :=(World.ownsRow.stored h i (.bool x)).1
 unfold Bools
 rw [aw,List.map_set]
 exact this
theorem frB {S:List Nat} (h:Bools w A c bs) (hf:Fr S w w') (hd:∀k,k∈ap A→k∉S):Bools w' A c bs:=hf.own h (fun k hk=>hd k ((iR k).1 hk))
end Bools
def AD (xs:List Int) (bs:List Bool):List Bool:=xs.foldl (fun b x=>b.set (x/2).toNat true) bs
theorem Sc (xs:List Int):∀bs,(AD xs bs).length=bs.length:=by
 induction xs with
 |nil=>intro bs;rfl
 |cons x r ih=>intro bs;show (AD r _).length=_;rw [ih,aw]
theorem AC (xs ys:List Int) (bs:List Bool):AD (xs++ys) bs=AD ys (AD xs bs):=by unfold AD;rw [List.foldl_append]
theorem wI {xs:List Int} {k:Nat} (h:k<xs.length) (bs:List Bool):AD (xs.take (k+1)) bs=(AD (xs.take k) bs).set (xs[k]! /2).toNat true:=by
 rw [List.take_add_one,af h,fq,AC]
 simp only [aa,af h,ay]
 rfl
def Kg (C:Pc):List Bool:=AD (cD C) (List.replicate (C.mx+1).toNat false)
theorem ru (C:Pc):(Kg C).length=(C.mx+1).toNat:=by unfold Kg;rw [Sc,bh]
structure Dg (w wr:World) (g n:Nat) (bs:List Bool):Prop where
 row:Bools wr (some ⟨g,0,none⟩) n bs
 len:bs.length=n
 new:w.heap.size<g
namespace Dg
variable {w wr wx:World} {g n:Nat} {bs:List Bool}
theorem keep (h:Dg w wr g n bs) (hf:Fr [] wr wx):Dg w wx g n bs:=⟨h.row.frB hf (fun _ _ hm=>by cases hm),h.len,h.new⟩
theorem eo (h:Dg w wr g n bs) (i:Nat):Dg w (wr.setCell ⟨g,i,none⟩ (.bool true)) g n (bs.set i true):=⟨h.row.adY i true,by rw [aw];exact h.len,h.new⟩
end Dg
theorem Cx.put {w wr:World} {H:Hd} {C:Pc} (h:Cx w wr H C) {g:Nat} (hg:w.heap.size<g) (i:Nat) (v:Value):Cx w (wr.setCell ⟨g,i,none⟩ v) H C:=
 ⟨h.fr.setCell (.inr (by show w.heap.size≤g;omega)) v,h.bx.gh (by show w.heap.size≠g;omega) v⟩
theorem qac (w:World) (H:Hd) (C:Pc) (h:iy w H C) (hv:Valid C):
  Calls Tryz.prog 88 #[eX H C] w fun e w'=>∃g,e= .returned (.slice (some ⟨g,0,none⟩) (Kg C).length (Kg C).length)∧Bools w' (some ⟨g,0,none⟩) (Kg C).length (Kg C)∧w.heap.size≤g∧Fr [] w w':=by
 have HX:=ae (Cx.start w H C)
 have xT:=hv.m0
 have vO:=hv.m1
 obtain ⟨n,hn⟩:∃n:Nat,C.mx+1=n:=⟨(C.mx+1).toNat,by omega⟩
 have WW:=ae (eh hv)
 have DX:=ru C
 rw [hn,Int.toNat_natCast] at DX
 rw [DX]
 have HDU:al (Kg C=AD (C.aG.map (fun x=>x.a)) (AD (C.bi.map (fun x=>x.a)) (AD C.ins (List.replicate n false)))):=by
  show _=_
  unfold Kg cD
  rw [hn,Int.toNat_natCast,AC,AC]
 have HII:=ae (fun x (hx:x∈C.ins)=>eh hv x (by simp [cD,hx]))
 have HIL:=ae (fun x (hx:x∈C.bi.map (fun x=>x.a))=>eh hv x (by unfold cD;simp only [ag];exact .inl (.inr hx)))
 have HIA:=ae (fun x (hx:x∈C.aG.map (fun x=>x.a))=>eh hv x (by unfold cD;simp only [ag];exact .inr hx))
 have dO:IntKind.i64.wrap (C.mx+1)=(n:Int):=by rw [hn];exact IntWalk.i64_in _ (by omega)
 have KV:=ae (fun W l (h0:0≤l) (h1:l≤9223372036854775807)=>kb W l h0 h1)
 have HH:=ae h
 have HIR:=ae h.ir
 have rO:=ae h.lr
 have HGR:=ae h.gr
 have qr:=ae h.gL
 have tp:=h.iL
 have sD:=h.lL
 have sE:=h.gL
 clear h hv DX
 obtain ⟨mx,ins,bi,outs,a8,aZ,aG,b8⟩:=C
 obtain ⟨iA,iC,lA,lC,oA,oC,bA,bC,vA,vC,gA,gC,nA,nC⟩:=H
 simp only [eX,kj] at *
 have LF:mx+1=(n:Int):=hn
 have LH:=fun W=>lF W (n:Int) (by omega) (by omega)
 simp only [Int.toNat_natCast] at LH
 obtain ⟨wq,Hi⟩:∃W,w.alloc (.cells #[.int .i64 mx, .slice iA ins.length iC, .slice lA bi.length lC, .slice oA outs.length oC, .slice bA a8.length bC, .slice vA aZ.length vC, .slice gA aG.length gC, .slice nA b8.length nC] 27)=W:=⟨_,rfl⟩
 have HXQ:al (Cx w wq ⟨iA,iC,lA,lC,oA,oC,bA,bC,vA,vC,gA,gC,nA,nC⟩ ⟨mx,ins,bi,outs,a8,aZ,aG,b8⟩):=Hi▸HX.o
 obtain ⟨c0,c1,c2,c3,c4,c5,c6,c7⟩:=HXQ.o.cells
 try simp only at c0 c1 c2 c3 c4 c5 c6 c7
 obtain ⟨w1,hw⟩:∃W,wq.alloc (.cells (madeCells #[.bool false] n) 4)=W:=⟨_,rfl⟩
 have dy:al (Fr [] wq w1):=hw▸aN _ _
 have lP:=ae (HXQ.o.keep dy.o)
 have yr:al (Dg w w1 wq.heap.size n (List.replicate n false)):=⟨hw▸qa wq n (by unfold maxLen;omega),by simp,HXQ.o.bx.lt⟩
 obtain ⟨g,hg⟩:∃g,wq.heap.size=g:=⟨_,rfl⟩
 rw [hg] at yr
 obtain ⟨d0,d1,d2,d3,d4,d5,d6,d7⟩:=lP.o.cells
 try simp only at d0 d1 d2 d3 d4 d5 d6 d7
 have aad:=LH wq
 rw [hg,hw] at aad
 clear HX LH hn
 go_enter Tryz.func88,Tryz.ntmps88
 go_wp2_with fail
 clear aad hw Hi hg dO c0 c1 c2 c3 c4 c5 c6 c7 d0 d1 d2 d3 d4 d5 d6 d7
 go_loopg [17] ins.length (fun gk UG wr=>∃k:Nat,k+gk=ins.length∧UG= .int .i64 k∧al (Cx w wr ⟨iA,iC,lA,lC,oA,oC,bA,bC,vA,vC,gA,gC,nA,nC⟩ ⟨mx,ins,bi,outs,a8,aZ,aG,b8⟩)∧al (Dg w wr g n (AD (ins.take k) (List.replicate n false))))
 case atStart=>exact ⟨0,by omega,rfl,lP.o,yr.o⟩
 case round=>
  obtain ⟨k,hk,rfl,iU,HD⟩:=hrel
  have HK:=ae hk
  have ly:k≤ins.length:=by omega
  clear hk lP yr
  by_cases bM:k<ins.length
  ·obtain ⟨b,o,x,hA,he,cx,ij,ix⟩:=(HH.o.keep iU.o.fr).i.one HIR.o bM
   try simp only at hA he
   subst hA
   have oI:=ae (wI bM (List.replicate n false))
   rw [he.o] at oI
   have xw:=HII.o x (by rw [←he.o];exact bu bM)
   try simp only at xw
   have AU:=iU
   have zp:=HD
   obtain ⟨v,lK⟩:∃v:Nat,x/2=(v:Int):=⟨(x/2).toNat,by omega⟩
   have QX:v<n:=by omega
   have ZD:(v:Int)<(n:Int):=by omega
   rw [lK,Int.toNat_natCast] at oI
   have Iu:=KV.o wr x (by omega) (by omega)
   rw [lK] at Iu
   have Iu:=ae Iu
   have cb:=zp.o.row.Ik (i:=v) (by rw [zp.o.len];exact QX)
   have cf:=zp.o.row.uL v
   have nu:=ae (AU.o.put zp.o.new v (.bool true))
   have Tb:=ae (zp.o.eo v)
   have Gv:=ae zp.o.len
   clear lK
   go_wp2_with fail
   refine Iu.o.mono ?_
   rintro e w3 ⟨rfl,rfl⟩
   go_wp2
   go_roundg (gk-1)
   case measure=>have :=HK.o;omega
   case rel=>exact ⟨k+1,by have :=HK.o;omega,by go_num,nu.o,by rw [oI.o];exact Tb.o⟩
  ·obtain rfl :k=ins.length:=by omega
   obtain ⟨w2,mD⟩:∃x,x=wr:=⟨_,rfl⟩
   rw [eD] at HD
   obtain ⟨B1,hB1⟩:∃B,AD ins (List.replicate n false)=B:=⟨_,rfl⟩
   rw [hB1] at HD HDU
   obtain ⟨d0,d1,d2,d3,d4,d5,d6,d7⟩:=iU.o.cells
   try simp only at d0 d1 d2 d3 d4 d5 d6 d7
   clear HK hB1 mD
   go_wp2_with fail
   clear d0 d1 d2 d3 d4 d5 d6 d7
   go_loopg [29] bi.length (fun gk xi wr=>∃k:Nat,k+gk=bi.length∧xi= .int .i64 k∧al (Cx w wr ⟨iA,iC,lA,lC,oA,oC,bA,bC,vA,vC,gA,gC,nA,nC⟩ ⟨mx,ins,bi,outs,a8,aZ,aG,b8⟩)∧al (Dg w wr g n (AD ((bi.map (fun x=>x.a)).take k) B1)))
   case atStart=>exact ⟨0,by omega,rfl,iU.o,HD.o⟩
   case round=>
    obtain ⟨k,hk,rfl,iU,HD⟩:=hrel
    have HK:=ae hk
    have ly:k≤bi.length:=by omega
    clear hk
    by_cases bM:k<bi.length
    ·obtain ⟨b,o,x,y,z,hA,he,cx,cy,cz,hx,hy,hz⟩:=(HH.o.keep iU.o.fr).l.one rO.o bM
     try simp only at hA he
     subst hA
     have Ai:k<(bi.map (fun x:T3=>x.a)).length:=by rw [aq];exact bM
     have Bd:(bi.map (fun x:T3=>x.a))[k]! =x:=by
      rw [aa,aO,af bM]
      have :=he.o
      rw [aa,af bM] at this
      simp only [ay] at this
      simp [this]
     have oI:=ae (wI Ai B1)
     rw [Bd] at oI
     have xw:=HIL.o x (by rw [←Bd];exact bu Ai)
     try simp only at xw
     obtain ⟨wx,qu⟩:∃W,wr.alloc (.cells #[.int .i64 x, .int .i64 y, .int .i64 z] 40)=W:=⟨_,rfl⟩
     have xx:At wx wr.heap.size 40 #[.int .i64 x, .int .i64 y, .int .i64 z]:=qu▸At.new _ _ _
     have nD:al (Fr [] wr wx):=qu▸aN _ _
     have f0:=xx.cell 0
     simp at f0
     have AU:=ae (iU.o.keep nD.o)
     have zp:=ae (HD.o.keep nD.o)
     clear Bd Ai xx
     obtain ⟨v,lK⟩:∃v:Nat,x/2=(v:Int):=⟨(x/2).toNat,by omega⟩
     have QX:v<n:=by omega
     have ZD:(v:Int)<(n:Int):=by omega
     rw [lK,Int.toNat_natCast] at oI
     have Iu:=KV.o wx x (by omega) (by omega)
     rw [lK] at Iu
     have Iu:=ae Iu
     have cb:=zp.o.row.Ik (i:=v) (by rw [zp.o.len];exact QX)
     have cf:=zp.o.row.uL v
     have nu:=ae (AU.o.put zp.o.new v (.bool true))
     have Tb:=ae (zp.o.eo v)
     have Gv:=ae zp.o.len
     clear lK
     go_wp2_with fail
     refine Iu.o.mono ?_
     rintro e w3 ⟨rfl,rfl⟩
     go_wp2
     go_roundg (gk-1)
     case measure=>have :=HK.o;omega
     case rel=>exact ⟨k+1,by have :=HK.o;omega,by go_num,nu.o,by rw [oI.o];exact Tb.o⟩
    ·obtain rfl :k=bi.length:=by omega
     have HD:al (Dg w wr g n (AD (bi.map (fun x=>x.a)) B1)):=by
      have :=HD.o
      rw [dn (by rw [aq];exact au _)] at this
      exact this
     clear HK
     obtain ⟨B2,hB2⟩:∃B,AD (bi.map (fun x=>x.a)) B1=B:=⟨_,rfl⟩
     try simp only at HDU
     rw [hB2] at HD HDU
     obtain ⟨d0,d1,d2,d3,d4,d5,d6,d7⟩:=iU.o.cells
     try simp only at d0 d1 d2 d3 d4 d5 d6 d7
     clear hB2
     go_wp2_with fail
     clear d0 d1 d2 d3 d4 d5 d6 d7
     go_loopg [42] aG.length (fun gk xi wr=>∃k:Nat,k+gk=aG.length∧xi= .int .i64 k∧al (Cx w wr ⟨iA,iC,lA,lC,oA,oC,bA,bC,vA,vC,gA,gC,nA,nC⟩ ⟨mx,ins,bi,outs,a8,aZ,aG,b8⟩)∧al (Dg w wr g n (AD ((aG.map (fun x=>x.a)).take k) B2)))
     case atStart=>exact ⟨0,by omega,rfl,iU.o,HD.o⟩
     case round=>
      obtain ⟨k,hk,rfl,iU,HD⟩:=hrel
      have HK:=ae hk
      have ly:k≤aG.length:=by omega
      clear hk
      by_cases bM:k<aG.length
      ·obtain ⟨b,o,x,y,z,hA,he,cx,cy,cz,hx,hy,hz⟩:=(HH.o.keep iU.o.fr).g.one HGR.o bM
       try simp only at hA he
       subst hA
       have Ai:k<(aG.map (fun x:T3=>x.a)).length:=by rw [aq];exact bM
       have Bd:(aG.map (fun x:T3=>x.a))[k]! =x:=by
        rw [aa,aO,af bM]
        have :=he.o
        rw [aa,af bM] at this
        simp only [ay] at this
        simp [this]
       have oI:=ae (wI Ai B2)
       rw [Bd] at oI
       have xw:=HIA.o x (by rw [←Bd];exact bu Ai)
       try simp only at xw
       obtain ⟨wx,qu⟩:∃W,wr.alloc (.cells #[.int .i64 x, .int .i64 y, .int .i64 z] 105)=W:=⟨_,rfl⟩
       have xx:At wx wr.heap.size 105 #[.int .i64 x, .int .i64 y, .int .i64 z]:=qu▸At.new _ _ _
       have nD:al (Fr [] wr wx):=qu▸aN _ _
       have f0:=xx.cell 0
       simp at f0
       have AU:=ae (iU.o.keep nD.o)
       have zp:=ae (HD.o.keep nD.o)
       clear Bd Ai xx
       obtain ⟨v,lK⟩:∃v:Nat,x/2=(v:Int):=⟨(x/2).toNat,by omega⟩
       have QX:v<n:=by omega
       have ZD:(v:Int)<(n:Int):=by omega
       rw [lK,Int.toNat_natCast] at oI
       have Iu:=KV.o wx x (by omega) (by omega)
       rw [lK] at Iu
       have Iu:=ae Iu
       have cb:=zp.o.row.Ik (i:=v) (by rw [zp.o.len];exact QX)
       have cf:=zp.o.row.uL v
       have nu:=ae (AU.o.put zp.o.new v (.bool true))
       have Tb:=ae (zp.o.eo v)
       have Gv:=ae zp.o.len
       clear lK
       go_wp2_with fail
       refine Iu.o.mono ?_
       rintro e w3 ⟨rfl,rfl⟩
       go_wp2
       go_roundg (gk-1)
       case measure=>have :=HK.o;omega
       case rel=>exact ⟨k+1,by have :=HK.o;omega,by go_num,nu.o,by rw [oI.o];exact Tb.o⟩
      ·obtain rfl :k=aG.length:=by omega
       have HD:al (Dg w wr g n (AD (aG.map (fun x=>x.a)) B2)):=by
        have :=HD.o
        rw [dn (by rw [aq];exact au _)] at this
        exact this
       clear HK
       go_wp2
       go_ret
       exact ⟨g,rfl,by rw [HDU.o];exact HD.o.row,by have :=HD.o.new;omega,iU.o.fr⟩
theorem gq (wb:World) {ops:Array Oper} {rest:List Oper} {o:Oper} {a:Act} {Q:Exit→Act→World→Prop} (ou:o.guard=none) (s x:Operand)
  (ho:o.op= .call { callee:= .builtin .append,args:=#[s,x],argTypes:=#[28,28] }) {w3:World} {B:Nat} (A:Option Addr) (c:Nat) (hs:List Ls) (HN:NwLs w3 B A c hs) (eR:Fr [] w3 wb) (hB:B≤wb.heap.size) (n:Nat) (PV:a.eval s= .slice A n c) (hn:n=hs.length)
  (ad:Addr) (m d:Nat) (ms:List Ls) (hx:a.eval x= .slice (some ad) m d) (hm:m=ms.length) (hr:∀j:Nat,j<ms.length→wb.cell? (ad.add j)=some (ms[j]!).val)
  (LG:∀h∈ms,Ints wb h.A h.c h.l∧Ra h.l∧h.l.length≤1048576∧∀k,k∈ap h.A→B≤k) (hlen:hs.length+ms.length≤4194304)
  (h:∀A' cap w',NwLs w' B A' cap (hs++ms)→Fr (ap A) wb w'→wpList Tryz.prog ops Q rest (a.put o.dst (.slice A' (n+m) cap)) w'):
  wpList Tryz.prog ops Q (o::rest) a wb:=
 dP wb ou s x ho A c hs n PV hn (HN.keep eR).row ad m d ms hx hm hr hlen fun A' cap w' h1 h2 h3 h4=>h A' cap w' (HN.more eR LG h2 h1 h3 hB) h2
theorem Cx.push {w wb w':World} {H:Hd} {C:Pc} {A:Option Addr} (h:Cx w wb H C) (hf:Fr (ap A) wb w') (hn:∀k∈ap A,w.heap.size<k):Cx w w' H C:=
 ⟨h.fr.trans hf (fun k hk=> .inr (Nat.le_of_lt (hn k hk))),hf.at_ h.bx (fun hm=>by have :=hn _ hm;omega)⟩
theorem NwLs.lt {w:World} {B:Nat} {A:Option Addr} {c:Nat} {hs:List Ls} (k:NwLs w B A c hs) {n:Nat} (h:n<B):∀j∈ap A,n<j:=fun j hj=>aK h (k.new j hj)
theorem NwLs.fQ {w:World} {B:Nat} {A:Option Addr} {c:Nat} {hs:List Ls} (k:NwLs w B A c hs) {L:List (List Int)} (h:hs.map (·.l)=L):hs.length=L.length:=by rw [←h,aq]
theorem By {C:Pc} (hv:Valid C):C.aG.length≤2048:=by
 have key:∀j:Nat,j<C.aG.length→2*((j:Int)+1)≤(C.aG[j]!).a:=by
  intro j
  induction j with
  |zero=>
   intro h
   have :=eh hv (C.aG[0]!).a (by unfold cD;simp only [ag,az];exact .inr ⟨_,bu h,rfl⟩)
   omega
  |succ j ih=>
   intro h
   have h1:=ih (by omega)
   have h2:=hv.aG (j+1) h
   simp only [F3,YM,eN,aD] at h2
   rw [if_neg (by omega)] at h2
   simp only [decide_eq_true_eq] at h2
   have h3:=eh hv (C.aG[j+1]!).a (by unfold cD;simp only [ag,az];exact .inr ⟨_,bu h,rfl⟩)
   have h4:=eh hv (C.aG[j]!).a (by unfold cD;simp only [ag,az];exact .inr ⟨_,bu (by omega),rfl⟩)
   omega
 by_cases h:C.aG.length=0
 ·omega
 ·have h1:=key (C.aG.length-1) (by omega)
  have h2:=eh hv (C.aG[C.aG.length-1]!).a (by unfold cD;simp only [ag,az];exact .inr ⟨_,bu (by omega),rfl⟩)
  have :=hv.m1
  omega
theorem yy {C:Pc} (h:Valid C) (j:Nat) (hj:j<C.aG.length):(0≤(C.aG[j]!).a∧(C.aG[j]!).a≤2*C.mx+1)∧(0≤(C.aG[j]!).b∧(C.aG[j]!).b≤2*C.mx+1)∧(0≤(C.aG[j]!).c∧(C.aG[j]!).c≤2*C.mx+1):=by
 have h2:=h.aG j hj
 simp only [F3,aD] at h2
 have h3:=eh h (C.aG[j]!).a (by unfold cD;simp only [ag,az];exact .inr ⟨_,bu hj,rfl⟩)
 exact ⟨by omega,km h h2.1.2,km h h2.2⟩
theorem ad3 {x y z:Int} (h:dY x) (h2:dY y) (h3:dY z):Ra [x,y,z]:=fun j hj=>by
 have :j=0∨j=1∨j=2:=by simp at hj;omega
 rcases this with rfl |rfl |rfl
 ·exact h
 ·exact h2
 ·exact h3
def zw (b:Int) (bs:List Bool) (i:Nat):List (List Int):=if bs[i]! =true then [] else [[-(b+i+1)]]
def zv (b:Int) (bs:List Bool) (k:Nat):List (List Int):=(List.range k).flatMap (zw b bs)
theorem yz (b:Int) (bs:List Bool) (k:Nat):zv b bs (k+1)=zv b bs k++zw b bs k:=by
 unfold zv
 rw [List.range_succ,List.flatMap_append]
 simp
theorem BA (b:Int) (bs:List Bool) (k:Nat):(zv b bs k).length≤k:=by
 induction k with
 |zero=>simp [zv]
 |succ k ih=>
  rw [yz,ai]
  have :(zw b bs k).length≤1:=by unfold zw;split<;>simp
  omega
def J7 (b:Int) (x:T3):List (List Int):=[[-(dv b x.a),dv b x.b],[-(dv b x.a),dv b x.c],[dv b x.a,-(dv b x.b),-(dv b x.c)]]
def Au (b:Int) (xs:List T3) (k:Nat):List (List Int):=(xs.take k).flatMap (J7 b)
theorem ze (b:Int) (xs:List T3) (k:Nat) (h:k<xs.length):Au b xs (k+1)=Au b xs k++J7 b xs[k]! :=by
 unfold Au
 rw [lU _ _ h,List.flatMap_append]
 simp
theorem Oy (b:Int) (xs:List T3) (k:Nat) (h:k≤xs.length):(Au b xs k).length=3*k:=by
 induction k with
 |zero=>simp [Au]
 |succ k ih=>
  rw [ze b xs k (by omega),ai,ih (by omega)]
  simp [J7]
  omega
def mS (C:Pc) (b:Int):List (List Int):=zv b (Kg C) (Kg C).length++Au b C.aG C.aG.length
theorem zG (w:World) (H:Hd) (C:Pc) (h:iy w H C) (hv:Valid C) (b:Int) (hb:0≤b∧b≤262144):
  Calls Tryz.prog 60 #[eX H C, .int .i64 b] w fun e w'=>∃A c hs,e= .returned (.tuple #[.slice A hs.length c, .int .i64 0])∧NwLs w' w.heap.size A c hs∧hs.map (·.l)=mS C b∧Fr [] w w':=by
 have HX:=ae (Cx.start w H C)
 have KR:=ae (qH _ H C (h.keep HX.o.fr) hv b hb)
 have KD:=ae (fun W (hW:Fr [] w W)=>qac W H C (h.keep hW) hv)
 have KO:=ae (fun W v (hv:0≤v∧v≤1000000)=>yP W b v (by omega) hv)
 have KT:=ae (fun W x (hx:0≤x∧x≤4097)=>mP W b x (by omega) (by omega))
 have Iy:=ae (fun x (hx:0≤x∧x≤4097)=>oh (b:=b) (l:=x) (by omega) hx)
 have oI:=ae (fun j hj=>yy hv j hj)
 have DX:=ru C
 have xT:=hv.m0
 have qx:=hv.m1
 have sE:=By hv
 have HH:=ae h
 have HGR:=ae h.gr
 have J2:=h.gL
 obtain ⟨bs,hbs⟩:∃bs,Kg C=bs:=⟨_,rfl⟩
 have qD:al (mS C b=zv b bs bs.length++Au b C.aG C.aG.length):=(by show _=_;unfold mS;rw [hbs])
 rw [hbs] at KD DX
 have hbl:bs.length≤2049:=by omega
 clear h hv hbs DX
 obtain ⟨mx,ins,bi,outs,a8,aZ,aG,b8⟩:=C
 obtain ⟨iA,iC,lA,lC,oA,oC,bA,bC,vA,vC,gA,gC,nA,nC⟩:=H
 simp only [eX,kj] at *
 obtain ⟨c0,c1,c2,c3,c4,c5,c6,c7⟩:=HX.o.cells
 try simp only at c0 c1 c2 c3 c4 c5 c6 c7
 go_enter Tryz.func60,Tryz.ntmps60
 go_wp2_with fail
 refine KR.o.mono ?_
 rintro e w1 ⟨rfl,cU⟩
 have lP:=ae (HX.o.keep cU)
 obtain ⟨e0,e1,e2,e3,e4,e5,e6,e7⟩:=lP.o.cells
 try simp only at e0 e1 e2 e3 e4 e5 e6 e7
 have KD1:=ae (KD.o w1 lP.o.fr)
 clear cU c0 c1 c2 c3 c4 c5 c6 c7 KR KD HX
 go_wp2_with fail
 refine KD1.o.mono ?_
 rintro e w2 ⟨g,rfl,XZ,hgn,bZ⟩
 have mE:=ae (lP.o.keep bZ)
 have HBO:=ae XZ
 clear bZ XZ hgn KD1 e0 e1 e2 e3 e4 e5 e6 e7
 go_wp2_with fail
 go_loopg [8,26] bs.length (fun gk x8 x26 wr=>∃(k:Nat) (A':Option Addr) (c':Nat) (hs:List Ls),k+gk=bs.length∧x8= .slice A' hs.length c'∧x26= .int .i64 k∧al (NwLs wr (w.heap.size+1) A' c' hs)∧al (hs.map (·.l)=zv b bs k)∧al (Cx w wr ⟨iA,iC,lA,lC,oA,oC,bA,bC,vA,vC,gA,gC,nA,nC⟩ ⟨mx,ins,bi,outs,a8,aZ,aG,b8⟩)∧al (Bools wr (some ⟨g,0,none⟩) bs.length bs))
 case atStart=>exact ⟨0,none,0,[],by omega,rfl,rfl,NwLs.nil _ _,rfl,mE.o,HBO.o⟩
 case round=>
  obtain ⟨k,A',c',hs,hk,rfl,rfl,HN,HE,iU,Qj⟩:=hrel
  have HK:=ae hk
  have ly:k≤bs.length:=by omega
  have DT:hs.length≤k:=by
   have :=BA b bs k
   rw [←HE.o,aq] at this
   exact this
  clear hk lP mE HBO
  by_cases bM:k<bs.length
  ·have cb:=Qj.o.Ik bM
   have cf:=Qj.o.uL k
   have oI:=ae (yz b bs k)
   obtain ⟨t,ht⟩:∃t,bs[k]! =t:=⟨_,rfl⟩
   rw [ht] at cb
   have HU1:al (zw b bs k=if t=true then [] else [[-(b+k+1)]]):=(by show _=_;unfold zw;rw [ht])
   clear ht
   cases t with
   |true=>
    have HU2:al (zw b bs k=[]):=HU1.o
    go_wp2
    go_roundg (gk-1)
    case measure=>have :=HK.o;omega
    case rel=>exact ⟨k+1,A',c',hs,by have :=HK.o;omega,rfl,by go_num,HN.o,(by rw [HE.o,oI.o,HU2.o,bU]:_=_),iU.o,Qj.o⟩
   |false=>
    obtain ⟨v,lK⟩:∃v,b+(k:Int)+1=v:=⟨_,rfl⟩
    have HU2:al (zw b bs k=[[-v]]):=by have :=HU1.o;rw [lK] at this;exact this
    have vI:0≤v∧v≤1000000:=by omega
    have dO:IntKind.i64.wrap (-v)= -v:=IntWalk.i64_in _ (by omega)
    have KOV:=KO.o wr (k:Int) (by omega)
    rw [lK] at KOV
    have KOV:=ae KOV
    have uQ:=ae vI
    clear lK HU1
    obtain ⟨wb,eR⟩:∃W,(wr.alloc (.cells #[.int .i64 (-v)] 3)).alloc (.cells #[.slice (some ⟨wr.heap.size,0,none⟩) 1 1] 22)=W:=⟨_,rfl⟩
    have lR:al (Ints wb (some ⟨wr.heap.size,0,none⟩) 1 [-v]):=eR▸(j8 wr [-v] (by simp [maxLen])).alloc _
    have fE:al (Fr [] wr wb):=eR▸((aN _ _).aj (aN _ _))
    have mR:wb.cell? ⟨wr.heap.size+1,0,none⟩=some (.slice (some ⟨wr.heap.size,0,none⟩) 1 1):=by
     have :=(At.new (wr.alloc (.cells #[.int .i64 (-v)] 3)) 22 #[.slice (some ⟨wr.heap.size,0,none⟩) 1 1]).cell 0
     rw [eR] at this
     simpa using this
    have xq:=ae mR
    have pQ:al (w.heap.size+1≤wr.heap.size):=(iU.o.bx.lt:w.heap.size+1≤wr.heap.size)
    have O9:=ae (iU.o.keep fE.o)
    have Qk:=ae (Qj.o.frB fE.o (fun _ _ hm=>by cases hm))
    clear mR
    go_wp2_with fail
    refine KOV.o.mono ?_
    rintro e w3 ⟨rfl,rfl⟩
    go_wp2_with (at_builtin;(refine gq _ rfl _ _ rfl A' c' hs HN.o fE.o (aF pQ.o fE.o.size) hs.length rfl rfl ⟨wr.heap.size+1,0,none⟩ 1 1 [⟨some ⟨wr.heap.size,0,none⟩,1,[-v]⟩] rfl rfl (fun j hj=>by (have :j=0:=by simpa using hj);subst this;rw [dJ];exact xq.o) (fun h hh=>by (have :=ah.1 hh);subst this;exact ⟨lR.o,Qz ⟨by have :=uQ.o;omega,by have :=uQ.o;omega⟩,by simp,fun k hk=>by simp [ap] at hk;subst hk;exact pQ.o⟩) (by simp;omega) ?_;intro A4 c4 w4 tV eW;have um:=ae tV;have nu:=ae (O9.o.push eW (HN.o.lt (Nat.lt_succ_self _)));have Br:=ae (Qk.o.frB eW (BR Qk.o (HN.o.keep fE.o).row (by decide)));clear tV eW))
    clear eR
    go_roundg (gk-1)
    case measure=>have :=HK.o;omega
    case rel=>exact ⟨k+1,A4,c4,hs++[(⟨some ⟨wr.heap.size,0,none⟩,1,[-v]⟩:Ls)],by have :=HK.o;omega,by simp,by go_num,um.o,(by rw [bJ,HE.o,oI.o,HU2.o];rfl :_=_),nu.o,Br.o⟩
  ·obtain rfl :k=bs.length:=by omega
   obtain ⟨d0,d1,d2,d3,d4,d5,d6,d7⟩:=iU.o.cells
   try simp only at d0 d1 d2 d3 d4 d5 d6 d7
   have HHS:al (hs.length≤2049):=(by show _≤_;omega)
   obtain ⟨U,hU⟩:∃U,zv b bs bs.length=U:=⟨_,rfl⟩
   rw [hU] at HE qD
   clear HK hU Qj DT
   go_wp2_with fail
   clear d0 d1 d2 d3 d4 d5 d6 d7
   go_loopg [8,45] aG.length (fun gk x8 x45 wr=>∃(k:Nat) (A':Option Addr) (c':Nat) (hs:List Ls),k+gk=aG.length∧x8= .slice A' hs.length c'∧x45= .int .i64 k∧al (NwLs wr (w.heap.size+1) A' c' hs)∧al (hs.map (·.l)=U++Au b aG k)∧al (hs.length≤2049+3*k)∧al (Cx w wr ⟨iA,iC,lA,lC,oA,oC,bA,bC,vA,vC,gA,gC,nA,nC⟩ ⟨mx,ins,bi,outs,a8,aZ,aG,b8⟩))
   case atStart=>exact ⟨0,A',c',hs,by omega,rfl,rfl,HN.o,(by rw [HE.o];simp [Au]:_=_),HHS.o,iU.o⟩
   case round=>
    clear HN HE iU HHS
    obtain ⟨k,A',c',hs,hk,rfl,rfl,HN,HE,HHS,iU⟩:=hrel
    have HK:=ae hk
    have ly:k≤aG.length:=by omega
    have DT:=HHS.o
    clear hk
    by_cases bM:k<aG.length
    ·obtain ⟨b1,o,x,y,z,hA,he,cx,cy,cz,hx,hy,hz⟩:=(HH.o.keep iU.o.fr).g.one HGR.o bM
     try simp only at hA he
     subst hA
     have Cn:=oI.o k bM
     try simp only at Cn
     rw [he.o] at Cn
     try simp only at Cn
     have yp:=ae (ze b aG k bM)
     obtain ⟨tg,htg⟩:∃u,dv b x=u:=⟨_,rfl⟩
     obtain ⟨tl,Ba⟩:∃u,dv b y=u:=⟨_,rfl⟩
     obtain ⟨tr,PT⟩:∃u,dv b z=u:=⟨_,rfl⟩
     have dy:al (J7 b aG[k]! =[[-tg,tl],[-tg,tr],[tg,-tl,-tr]]):=by
      show _=_
      unfold J7
      rw [he.o]
      simp only [htg,Ba,PT]
     have LQ:=Iy.o x (by omega)
     have xV:=Iy.o y (by omega)
     have XQ:=Iy.o z (by omega)
     rw [htg] at LQ
     rw [Ba] at xV
     rw [PT] at XQ
     have KX:=fun W=>KT.o W x (by omega)
     simp only [htg] at KX
     have KX:=ae KX
     have KY:=fun W=>KT.o W y (by omega)
     simp only [Ba] at KY
     have KY:=ae KY
     have KZ:=fun W=>KT.o W z (by omega)
     simp only [PT] at KZ
     have KZ:=ae KZ
     clear htg Ba PT
     go_upto_region 15 with fail
     obtain ⟨wx,qu⟩:∃W,wr.alloc (.cells #[.int .i64 x, .int .i64 y, .int .i64 z] 105)=W:=⟨_,rfl⟩
     have xx:At wx wr.heap.size 105 #[.int .i64 x, .int .i64 y, .int .i64 z]:=qu▸At.new _ _ _
     have nD:al (Fr [] wr wx):=qu▸aN _ _
     have f0:=xx.cell 0
     have f1:=xx.cell 1
     have f2:=xx.cell 2
     simp at f0 f1 f2
     have g0:=Ext.cell f0
     have g1:=Ext.cell f1
     have g2:=Ext.cell f2
     have mD:IntKind.i64.wrap (-tg)= -tg:=IntWalk.i64_in _ (by omega)
     have rf:IntKind.i64.wrap (-tl)= -tl:=IntWalk.i64_in _ (by omega)
     have yY:IntKind.i64.wrap (-tr)= -tr:=IntWalk.i64_in _ (by omega)
     rw [qu]
     clear qu xx cx cy cz f0 f1 f2
     refine ax ?_
     repeat (go_big_quiet_step (first |with_reducible exact bk (KX.o _) |with_reducible exact bk (KY.o _) |with_reducible exact bk (KZ.o _)))
     refine gO ?_
     intro w3 tF
     have cZ:=ae (nD.o.aj tF.o)
     clear g0 g1 g2 KX KY KZ tF
     obtain ⟨y1,im⟩:∃W,w3.alloc (.cells #[.int .i64 (-tg), .int .i64 tl] 3)=W:=⟨_,rfl⟩
     obtain ⟨y2,kS⟩:∃W,y1.alloc (.cells #[.int .i64 (-tg), .int .i64 tr] 3)=W:=⟨_,rfl⟩
     obtain ⟨y3,Zw⟩:∃W,y2.alloc (.cells #[.int .i64 tg, .int .i64 (-tl), .int .i64 (-tr)] 3)=W:=⟨_,rfl⟩
     obtain ⟨wb,eR⟩:∃W,y3.alloc (.cells #[.slice (some ⟨w3.heap.size,0,none⟩) 2 2, .slice (some ⟨y1.heap.size,0,none⟩) 2 2, .slice (some ⟨y2.heap.size,0,none⟩) 3 3] 22)=W:=⟨_,rfl⟩
     have lR:al (Ints wb (some ⟨w3.heap.size,0,none⟩) 2 [-tg,tl]):=eR▸(Zw▸(kS▸(im▸j8 w3 [-tg,tl] (by simp [maxLen]):Ints y1 _ _ _).alloc _:Ints y2 _ _ _).alloc _:Ints y3 _ _ _).alloc _
     have j5:al (Ints wb (some ⟨y1.heap.size,0,none⟩) 2 [-tg,tr]):=eR▸(Zw▸(kS▸j8 y1 [-tg,tr] (by simp [maxLen]):Ints y2 _ _ _).alloc _:Ints y3 _ _ _).alloc _
     have HL3:al (Ints wb (some ⟨y2.heap.size,0,none⟩) 3 [tg,-tl,-tr]):=eR▸(Zw▸j8 y2 [tg,-tl,-tr] (by simp [maxLen]):Ints y3 _ _ _).alloc _
     have hya:Fr [] w3 y1:=im▸aN _ _
     have PR:Fr [] y1 y2:=kS▸aN _ _
     have QT:Fr [] y2 y3:=Zw▸aN _ _
     have hy9:Fr [] y3 wb:=eR▸aN _ _
     have fE:=ae (((hya.aj PR).aj QT).aj hy9)
     have Te:al (At wb y3.heap.size 22 #[.slice (some ⟨w3.heap.size,0,none⟩) 2 2, .slice (some ⟨y1.heap.size,0,none⟩) 2 2, .slice (some ⟨y2.heap.size,0,none⟩) 3 3]):=eR▸At.new _ _ _
     have pQ:al (w.heap.size+1≤w3.heap.size):=(aF iU.o.bx.lt cZ.o.size:w.heap.size+1≤w3.heap.size)
     have WR:al (w.heap.size+1≤y1.heap.size):=aF pQ.o hya.size
     have HW2:al (w.heap.size+1≤y2.heap.size):=aF WR.o PR.size
     have O9:=ae ((iU.o.keep cZ.o).keep fE.o)
     have Qa:al (dY tg∧dY tl∧dY tr∧dY (-tg)∧dY (-tl)∧dY (-tr)):=(by unfold dY;omega:dY tg∧dY tl∧dY tr∧dY (-tg)∧dY (-tl)∧dY (-tr))
     have tj:w3.heap.size+1=y1.heap.size:=by rw [←im];simp
     have hq2:y1.heap.size+1=y2.heap.size:=by rw [←kS];simp
     have hq3:y2.heap.size+1=y3.heap.size:=by rw [←Zw];simp
     clear hya PR QT hy9 LQ xV XQ
     go_wp2_with (at_builtin;(refine gq _ rfl _ _ rfl A' c' hs (HN.o.keep cZ.o) fE.o (aF pQ.o fE.o.size) hs.length rfl rfl ⟨y3.heap.size,0,none⟩ 3 3 [⟨some ⟨w3.heap.size,0,none⟩,2,[-tg,tl]⟩,⟨some ⟨y1.heap.size,0,none⟩,2,[-tg,tr]⟩,⟨some ⟨y2.heap.size,0,none⟩,3,[tg,-tl,-tr]⟩] rfl rfl (fun j hj=>by (have :j=0∨j=1∨j=2:=by simp at hj;omega);rcases this with rfl |rfl |rfl <;>(rw [dJ,Te.o.cell];rfl)) (fun h hh=>by (have hh2:=hh;simp only [av,cK,or_false] at hh2);obtain ⟨r1,r2,r3,r4,r5,r6⟩:=Qa.o;rcases hh2 with rfl |rfl |rfl;(exact ⟨lR.o,Qy r4 r2,by simp,fun k hk=>by simp [ap] at hk;subst hk;exact pQ.o⟩);(exact ⟨j5.o,Qy r4 r3,by simp,fun k hk=>by simp [ap] at hk;subst hk;exact WR.o⟩);(exact ⟨HL3.o,ad3 r1 r5 r6,by simp,fun k hk=>by simp [ap] at hk;subst hk;exact HW2.o⟩)) (by simp;omega) ?_;intro A4 c4 w4 tV eW;have um:=ae tV;have nu:=ae (O9.o.push eW (HN.o.lt (Nat.lt_succ_self _)));clear tV eW))
     clear eR
     go_roundg (gk-1)
     case measure=>have :=HK.o;omega
     case rel=>exact ⟨k+1,A4,c4,hs++[(⟨some ⟨w3.heap.size,0,none⟩,2,[-tg,tl]⟩:Ls),(⟨some ⟨y1.heap.size,0,none⟩,2,[-tg,tr]⟩:Ls),(⟨some ⟨y2.heap.size,0,none⟩,3,[tg,-tl,-tr]⟩:Ls)],by have :=HK.o;omega,by simp,by go_num,um.o,(by rw [bJ,HE.o,yp.o,dy.o,js];rfl :_=_),(by have h9:hs.length≤2049+3*k:=HHS.o;show _≤_;rw [ai];show hs.length+3≤2049+3*(k+1);omega),nu.o⟩
    ·obtain rfl :k=aG.length:=by omega
     clear HK
     go_wp2
     go_ret2
     exact ⟨A',c',hs,rfl,HN.o.low (by omega),by rw [HE.o,qD.o],iU.o.fr⟩
theorem IG {C:Pc} (hv:Valid C):∀x∈C.aZ,0≤x∧x≤4097:=by
 intro x hx
 have h:=hv.v
 simp only [uf,aD,kO] at h
 have :=km hv (h.1 x hx)
 have :=hv.m1
 omega
theorem uX {C:Pc} (hv:Valid C):C.aZ.length≤64:=by
 have h:=hv.v
 simp only [uf,aD,decide_eq_true_eq] at h
 omega
def Tf (l:List Int):Prop:=l.length≤1024∧∀x∈l,0≤x∧x≤4097
def mT (C:Pc) (am:List (List Int)) (b:Int):List (List Int):=C.aZ.map (fun x=>[dv b x])++am.map (fun l=>l.map (dv b))
theorem wo (C:Pc) (am:List (List Int)) (b:Int):(mT C am b).length=C.aZ.length+am.length:=by simp [mT]
theorem sr {α β:Type} [Inhabited α] (f:α→β) {l:List α} {k:Nat} (h:k<l.length):(l.take (k+1)).map f=(l.take k).map f++[f l[k]!]:=qV f h
theorem zH (w:World) (H:Hd) (C:Pc) (h:iy w H C) (hv:Valid C) (A:Option Addr) (c:Nat) (am:List Ls) (hr:iS w A am) (hf:∀x∈am,Tf x.l) (ha:am.length≤64) (b:Int) (hb:0≤b∧b≤262144):
  Calls Tryz.prog 61 #[eX H C, .slice A am.length c, .int .i64 b] w fun e w'=>∃A c hs,e= .returned (.tuple #[.slice A hs.length c, .int .i64 0])∧NwLs w' w.heap.size A c hs∧hs.map (·.l)=mT C (am.map (·.l)) b∧Fr [] w w':=by
 have HX:=ae (Cx.start w H C)
 have KR:=ae (qH _ H C (h.keep HX.o.fr) hv b hb)
 have KT:=ae (fun W x (hx:0≤x∧x≤4097)=>mP W b x (by omega) (by omega))
 have KC:=ae (fun W A c l hr hx hl=>xK W b hb A c l hr hx hl)
 have Iy:=ae (fun x (hx:0≤x∧x≤4097)=>oh (b:=b) (l:=x) (by omega) hx)
 have oI:=ae (IG hv)
 have tp:=uX hv
 have HH:=ae h
 have uQ:=ae h.vr
 have HR:=ae hr
 have Xq:=ae hf
 have HFO:al (mT C (am.map (·.l)) b=C.aZ.map (fun x=>[dv b x])++(am.map (·.l)).map (fun l=>l.map (dv b))):=(rfl :_=_)
 clear h hv hr hf
 obtain ⟨mx,ins,bi,outs,a8,aZ,aG,b8⟩:=C
 obtain ⟨iA,iC,lA,lC,oA,oC,bA,bC,vA,vC,gA,gC,nA,nC⟩:=H
 simp only [eX,kj] at *
 obtain ⟨c0,c1,c2,c3,c4,c5,c6,c7⟩:=HX.o.cells
 try simp only at c0 c1 c2 c3 c4 c5 c6 c7
 go_enter Tryz.func61,Tryz.ntmps61
 go_wp2_with fail
 refine KR.o.mono ?_
 rintro e w1 ⟨rfl,cU⟩
 have lP:=ae (HX.o.keep cU)
 obtain ⟨e0,e1,e2,e3,e4,e5,e6,e7⟩:=lP.o.cells
 try simp only at e0 e1 e2 e3 e4 e5 e6 e7
 clear cU c0 c1 c2 c3 c4 c5 c6 c7 KR HX
 go_wp2_with fail
 clear e0 e1 e2 e3 e4 e5 e6 e7
 go_loopg [10,25] aZ.length (fun gk IF x25 wr=>∃(k:Nat) (A':Option Addr) (c':Nat) (hs:List Ls),k+gk=aZ.length∧IF= .slice A' hs.length c'∧x25= .int .i64 k∧al (NwLs wr (w.heap.size+1) A' c' hs)∧al (hs.map (·.l)=(aZ.take k).map (fun x=>[dv b x]))∧al (Cx w wr ⟨iA,iC,lA,lC,oA,oC,bA,bC,vA,vC,gA,gC,nA,nC⟩ ⟨mx,ins,bi,outs,a8,aZ,aG,b8⟩))
 case atStart=>exact ⟨0,none,0,[],by omega,rfl,rfl,NwLs.nil _ _,rfl,lP.o⟩
 case round=>
  obtain ⟨k,A',c',hs,hk,rfl,rfl,HN,HE,iU⟩:=hrel
  have HK:=ae hk
  have ly:k≤aZ.length:=by omega
  have DT:hs.length≤k:=by
   have :=HN.o.fQ HE.o
   rw [aq,aV] at this
   omega
  clear hk lP
  by_cases bM:k<aZ.length
  ·obtain ⟨ab,o,x,hA,he,cx,ij,ix⟩:=(HH.o.keep iU.o.fr).v.one uQ.o bM
   try simp only at hA he
   subst hA
   have D8:=ae (sr (fun x:Int=>[dv b x]) bM)
   rw [he.o] at D8
   have xw:=oI.o x (by rw [←he.o];exact bu bM)
   obtain ⟨v,lK⟩:∃v,dv b x=v:=⟨_,rfl⟩
   have vI:=Iy.o x (by omega)
   have KX:=KT.o wr x (by omega)
   rw [lK] at KX vI D8
   have KX:=ae KX
   have abH:=ae vI
   clear lK vI
   obtain ⟨wb,eR⟩:∃W,(wr.alloc (.cells #[.int .i64 v] 3)).alloc (.cells #[.slice (some ⟨wr.heap.size,0,none⟩) 1 1] 22)=W:=⟨_,rfl⟩
   have lR:al (Ints wb (some ⟨wr.heap.size,0,none⟩) 1 [v]):=eR▸(j8 wr [v] (by simp [maxLen])).alloc _
   have fE:al (Fr [] wr wb):=eR▸((aN _ _).aj (aN _ _))
   have mR:wb.cell? ⟨wr.heap.size+1,0,none⟩=some (.slice (some ⟨wr.heap.size,0,none⟩) 1 1):=by
    have :=(At.new (wr.alloc (.cells #[.int .i64 v] 3)) 22 #[.slice (some ⟨wr.heap.size,0,none⟩) 1 1]).cell 0
    rw [eR] at this
    simpa using this
   have xq:=ae mR
   have pQ:al (w.heap.size+1≤wr.heap.size):=(iU.o.bx.lt:w.heap.size+1≤wr.heap.size)
   have O9:=ae (iU.o.keep fE.o)
   clear mR
   go_wp2_with fail
   refine KX.o.mono ?_
   rintro e w3 ⟨rfl,rfl⟩
   go_wp2_with (at_builtin;(refine gq _ rfl _ _ rfl A' c' hs HN.o fE.o (aF pQ.o fE.o.size) hs.length rfl rfl ⟨wr.heap.size+1,0,none⟩ 1 1 [⟨some ⟨wr.heap.size,0,none⟩,1,[v]⟩] rfl rfl (fun j hj=>by (have :j=0:=by simpa using hj);subst this;rw [dJ];exact xq.o) (fun h hh=>by (have :=ah.1 hh);subst this;exact ⟨lR.o,Qz ⟨by have :=abH.o;omega,by have :=abH.o;omega⟩,by simp,fun k hk=>by simp [ap] at hk;subst hk;exact pQ.o⟩) (by simp;omega) ?_;intro A4 c4 w4 tV eW;have um:=ae tV;have nu:=ae (O9.o.push eW (HN.o.lt (Nat.lt_succ_self _)));clear tV eW))
   clear eR
   go_roundg (gk-1)
   case measure=>have :=HK.o;omega
   case rel=>exact ⟨k+1,A4,c4,hs++[(⟨some ⟨wr.heap.size,0,none⟩,1,[v]⟩:Ls)],by have :=HK.o;omega,by simp,by go_num,um.o,(by rw [bJ,HE.o,D8.o];rfl :_=_),nu.o⟩
  ·obtain rfl :k=aZ.length:=by omega
   obtain ⟨d0,d1,d2,d3,d4,d5,d6,d7⟩:=iU.o.cells
   try simp only at d0 d1 d2 d3 d4 d5 d6 d7
   rw [eD] at HE
   obtain ⟨U,hU⟩:∃U,aZ.map (fun x=>[dv b x])=U:=⟨_,rfl⟩
   have xS:U.length≤64:=by rw [←hU,aq];exact tp
   rw [hU] at HE
   try simp only at HFO
   rw [hU] at HFO
   clear HK hU DT
   go_wp2_with fail
   clear d0 d1 d2 d3 d4 d5 d6 d7
   go_loopg [10,39] am.length (fun gk IF x39 wr=>∃(k:Nat) (A':Option Addr) (c':Nat) (hs:List Ls),k+gk=am.length∧IF= .slice A' hs.length c'∧x39= .int .i64 k∧al (NwLs wr (w.heap.size+1) A' c' hs)∧al (hs.map (·.l)=U++((am.map (·.l)).take k).map (fun l=>l.map (dv b)))∧al (Cx w wr ⟨iA,iC,lA,lC,oA,oC,bA,bC,vA,vC,gA,gC,nA,nC⟩ ⟨mx,ins,bi,outs,a8,aZ,aG,b8⟩))
   case atStart=>exact ⟨0,A',c',hs,by omega,rfl,rfl,HN.o,(by rw [HE.o];simp :_=_),iU.o⟩
   case round=>
    clear HN HE iU
    obtain ⟨k,A',c',hs,hk,rfl,rfl,HN,HE,iU⟩:=hrel
    have HK:=ae hk
    have ly:k≤am.length:=by omega
    have DT:hs.length≤64+k:=by
     have :=HN.o.fQ HE.o
     rw [ai,aq,aV,aq] at this
     omega
    clear hk
    by_cases bM:k<am.length
    ·obtain ⟨ab,o,B1,d1,l1,hA,he,vU,vN⟩:=(HR.o.keep iU.o.fr).one bM
     subst hA
     have kM:=ae vN
     have Ai:k<(am.map (·.l)).length:=by rw [aq];exact bM
     have D8:=ae (sr (fun l:List Int=>l.map (dv b)) Ai)
     have Bd:(am.map (·.l))[k]! =l1:=by
      have :=he.o
      rw [aa,af bM] at this
      simp only [ay] at this
      rw [aa,aO,af bM]
      simp [this]
     rw [Bd] at D8
     have LR:Tf l1:=by
      have :=Xq.o (am[k]!) (bu bM)
      rw [he.o] at this
      exact this
     have vQ:l1.length≤1024:=LR.1
     have Qf:=ae LR
     have Uh:=ae (KC.o wr B1 d1 l1 vN.1 LR.2 (by have :=LR.1;omega))
     clear Ai Bd vN LR
     go_wp2_with fail
     refine Uh.o.mono ?_
     rintro e w3 ⟨B2,d2,rfl,ns,ot,bZ⟩
     have mw:=ae ns
     have jN:=ae ot
     have cH:=ae bZ
     clear ns ot bZ Uh
     obtain ⟨wb,eR⟩:∃W,w3.alloc (.cells #[.slice B2 l1.length d2] 22)=W:=⟨_,rfl⟩
     have fE:al (Fr [] w3 wb):=eR▸aN _ _
     have lR:=ae (mw.o.fr fE.o (fun _ _ hm=>by cases hm))
     have mR:wb.cell? ⟨w3.heap.size,0,none⟩=some (.slice B2 l1.length d2):=by
      have :=(At.new w3 22 #[.slice B2 l1.length d2]).cell 0
      rw [eR] at this
      simpa using this
     have xq:=ae mR
     have pQ:al (w.heap.size+1≤wr.heap.size):=(iU.o.bx.lt:w.heap.size+1≤wr.heap.size)
     have O9:=ae ((iU.o.keep cH.o).keep fE.o)
     have qr:al ((l1.map (dv b)).length=l1.length):=(aq .. :_=_)
     have DE:al (Ra (l1.map (dv b))):=(dW (p:=dY)).2 fun x hx=>by
      obtain ⟨y,hy,rfl⟩:=az.1 hx
      have :=Iy.o y (Qf.o.2 y hy)
      exact ⟨by omega,by omega⟩
     clear mR
     go_wp2_with (at_builtin;(refine gq _ rfl _ _ rfl A' c' hs (HN.o.keep cH.o) fE.o (aF pQ.o (aF cH.o.size fE.o.size)) hs.length rfl rfl ⟨w3.heap.size,0,none⟩ 1 1 [⟨B2,d2,l1.map (dv b)⟩] rfl rfl (fun j hj=>by (have :j=0:=by simpa using hj);subst this;rw [dJ];show _=some (Value.slice B2 (l1.map (dv b)).length d2);rw [qr.o];exact xq.o) (fun h hh=>by (have :=ah.1 hh);subst this;exact ⟨lR.o,DE.o,by show (l1.map (dv b)).length≤_;rw [qr.o];omega,fun k hk=>aF pQ.o (jN.o k hk)⟩) (by simp;omega) ?_;intro A4 c4 w4 tV eW;have um:=ae tV;have nu:=ae (O9.o.push eW (HN.o.lt (Nat.lt_succ_self _)));clear tV eW))
     clear eR
     go_roundg (gk-1)
     case measure=>have :=HK.o;omega
     case rel=>exact ⟨k+1,A4,c4,hs++[(⟨B2,d2,l1.map (dv b)⟩:Ls)],by have :=HK.o;omega,by simp,by go_num,um.o,(by rw [bJ,HE.o,D8.o,js];rfl :_=_),nu.o⟩
    ·obtain rfl :k=am.length:=by omega
     have dx:al (hs.map (·.l)=U++(am.map (·.l)).map (fun l=>l.map (dv b))):=by
      have :=HE.o
      rw [dn (by rw [aq];exact au _)] at this
      exact this
     clear HK HE
     go_wp2
     go_ret2
     exact ⟨A',c',hs,rfl,HN.o.low (by omega),by rw [dx.o,HFO.o],iU.o.fr⟩
end Go.Proofs.YtdgplmgfkliijaaGreat
