/- Parts of a proof. -/
import Derived.Test.YtpjbaobgnhjgoaaGreatGAM
set_option linter.unusedVariables false
set_option linter.unusedSimpArgs false
set_option maxHeartbeats 8000000
namespace Go.Proofs.YtpjbaobgnhjgoaaGreat
open Go.RowKit
theorem rt:(Tryz.prog.info? 22).map (fun i=>(i.zero,i.size,i.bytes))=some (some (.slice none 0 0),1,24):=by kernel_rfl
theorem F6{w:World}{e e':TypeId}{size RE n n' c c':Nat}{A A':Option Addr}{vs ab:List Value}(h:w.ownsRow 0 e size (.slice A n c) n vs)(h':w.ownsRow 0 e' RE (.slice A' n' c') n' ab)(dV:e≠e'):∀k,k∈ao A->k∉ao A':=by
 intro k hk lQ;rcases h.2 with⟨h1,_⟩ |⟨g,cap,cur,hv,_,hg,_⟩
 ·simp only[Value.slice.injEq]at h1;rw[h1.1]at hk;simp[ao]at hk
 ·rcases h'.2 with⟨h1,_⟩ |⟨g',ad,ar,J,_,pK,_⟩
  ·simp only[Value.slice.injEq]at h1;rw[h1.1]at lQ;simp[ao]at lQ
  ·simp only[Value.slice.injEq,true_and]at hv J;obtain⟨rfl,rfl⟩:=hv;obtain⟨rfl,rfl⟩:=J;simp[ao]at hk lQ;subst hk lQ;rw[hg]at pK;simp only[Option.some.injEq,Obj.cells.injEq]at pK;exact dV pK.2.1
structure NwLs(w:World)(B:Nat)(A:Option Addr)(c:Nat)(hs:List Ls):Prop where
 row:w.ownsRow 0 22 1 (.slice A hs.length c) hs.length (hs.map Ls.val)
 new:∀k,k∈ao A->B<=k
 each:∀h∈hs,Ints w h.A h.c h.l/\Ra h.l/\h.l.length<=1048576/\∀k,k∈ao h.A->B<=k
namespace NwLs
variable {w w':World} {B:Nat} {A:Option Addr} {c:Nat} {hs:List Ls}
theorem keep(k:NwLs w B A c hs)(J:Fr [] w w'):NwLs w' B A c hs:=⟨J.own k.row (by simp),k.new,fun h hh=>⟨(k.each h hh).1.fr J (fun _ _ hm=>by cases hm),(k.each h hh).2⟩⟩
theorem low{B':Nat}(k:NwLs w B A c hs)(h:B'<=B):NwLs w B' A c hs:=⟨k.row,fun j hj=>aE h (k.new j hj),fun x J=>⟨(k.each x J).1,(k.each x J).2.1,(k.each x J).2.2.1,fun j hj=>aE h ((k.each x J).2.2.2 j hj)⟩⟩
theorem nil(w:World)(B:Nat):NwLs w B none 0 []:=⟨World.ownsRow_nil _ 0 _ 1,by simp[ao],fun h J=>by cases J⟩
theorem okl(k:NwLs w B A c hs):∀h∈hs,Yf w h:=fun h J=>⟨(k.each h J).1.rd,(k.each h J).2.1,by have :=(k.each h J).2.2.1;omega,fun e=>by
 rcases(k.each h J).1.form with⟨_,h1,h2⟩ |⟨g,h1,_⟩
 ·exact⟨by rw[h2];rfl,h1⟩
 ·rw[e]at h1;cases h1⟩
theorem more{J:World}{A':Option Addr}{c':Nat}{ms:List Ls}(k:NwLs w B A c hs)(Vh:Fr [] w J)(hm:∀h∈ms,Ints J h.A h.c h.l/\Ra h.l/\h.l.length<=1048576/\∀k,k∈ao h.A->B<=k)(hf:Fr (ao A) J w')
  (iP:w'.ownsRow 0 22 1 (.slice A' (hs.length+ms.length) c') (hs.length+ms.length) (hs.map Ls.val++ms.map Ls.val)) (jC:∀k,k∈ao A'->k∈ao A\/k=J.heap.size) (hB:B<=J.heap.size):NwLs w' B A' c' (hs++ms):=by
 have ka:=k.keep Vh;have ie:∀x:Ls,Ints J x.A x.c x.l->Ints w' x.A x.c x.l:=fun x hx=>hx.fr hf (fun j hj hm=>F6 hx ka.row (by decide) j hj hm);refine⟨by simpa using iP,fun j hj=> ?_,fun x hx=> ?_⟩
 ·rcases jC j hj with h1 |h1
  ·exact k.new j h1
  ·omega
 ·rcases ah.1 hx with h1 |h1
  ·have :=ka.each x h1;exact⟨ie x this.1,this.2⟩
  ·have :=hm x h1;exact⟨ie x this.1,this.2⟩
end NwLs
theorem tR(w:World)(ty:TypeId)(A:Option Addr)(c:Nat)(hs:List Ls)(dD:w.ownsRow 0 22 1 (.slice A hs.length c) hs.length (hs.map Ls.val))(J:Addr)(m d:Nat)(ms:List Ls)(hm:m=ms.length)
  (hr:∀j:Nat,j<ms.length->w.cell? (J.add j)=some (ms[j]!).val) (hlen:hs.length+ms.length<=4194304):
  ∃A' cap w',(Builtin.append_ #[28,28] ty #[.slice A hs.length c, .slice (some J) m d]).run Tryz.prog w= .ok (.slice A' (hs.length+m) cap) w'/\w'.ownsRow 0 22 1 (.slice A' (hs.length+ms.length) cap) (hs.length+ms.length) (hs.map Ls.val++ms.map Ls.val)/\Fr (ao A) w w'/\(∀k,k∈ao A'->k∈ao A\/k=w.heap.size)/\w.heap.size<=w'.heap.size:=by
 subst hm;obtain⟨A',cap,w',oz,h2,h3,h4,h5,h6,h7⟩:=ik w 28 ty 22 (.slice none 0 0) 1 24 Tryz.underlying28 rt rfl (by decide) A c hs.length (hs.map Ls.val) dD J ms.length d (ms.map Ls.val) (by simp) (fun j u hu=>by simp only[aZ,Option.map_eq_some_iff]at hu;obtain⟨y,hy,rfl⟩:=hu;have hj:=(mX.1 hy).1;have :=hr j hj;rw[aa,hy]at this;exact this) (by intro u hu;obtain⟨y,_,rfl⟩:=aN.1 hu;rfl) (by unfold maxLen;omega) (by omega);exact⟨A',cap,w',oz,h2,h3,h4,h5⟩
theorem eM(w:World){ops:Array Oper}{rest:List Oper}{o:Oper}{a:Act}{Q:Exit->Act->World->Prop}(rA:o.guard=none)(s x:Operand)
  (ho:o.op= .call { callee:= .builtin .append,args:=#[s,x],argTypes:=#[28,28] }) (A:Option Addr) (c:Nat) (hs:List Ls) (n:Nat) (ab:a.eval s= .slice A n c) (hn:n=hs.length) (dD:w.ownsRow 0 22 1 (.slice A hs.length c) hs.length (hs.map Ls.val))
  (J:Addr) (m d:Nat) (ms:List Ls) (hx:a.eval x= .slice (some J) m d) (hm:m=ms.length) (hr:∀j:Nat,j<ms.length->w.cell? (J.add j)=some (ms[j]!).val) (hlen:hs.length+ms.length<=4194304)
  (h:∀A' cap w',w'.ownsRow 0 22 1 (.slice A' (hs.length+ms.length) cap) (hs.length+ms.length) (hs.map Ls.val++ms.map Ls.val)->Fr (ao A) w w'->(∀k,k∈ao A'->k∈ao A\/k=w.heap.size)->w.heap.size<=w'.heap.size->wpList Tryz.prog ops Q rest (a.put o.dst (.slice A' (n+m) cap)) w'):
  wpList Tryz.prog ops Q (o::rest) a w:=by
 subst hn;refine wpList_plain rA fun K hK=> ?_;obtain⟨A',cap,w',oz,h2,h3,h4,h5⟩:=tR w o.type A c hs dD J m d ms hm hr hlen;unfold Oper.wp execOp;simp only[ho,resolve,invoke,builtin,Sem.run_bind,Sem.run_pure,Result.andThen_ok,List.map_toArray,dJ,fQ,ab,hx,oz];exact hK _ _ (h A' cap w' h2 h3 h4 h5)
theorem F9{x:Int}(h:eJ x):Ra [x]:=fun j J=>by
 have :j=0:=by simp at J;omega
 subst this;exact h
theorem M9{C:Pc}(J:Valid C){f n:Int}(hf:0<=f/\f<=81)(hn:n≠0/\ -(C.az.length:Int)<=n/\n<=C.az.length):eJ (sj C f n):=by
 have hb:=jp J.m0 J.m1 hf;have hm:=J.m1;have key:∀j:Nat,j<C.az.length->1<=bV (cu C f) (C.az[j]!).a/\bV (cu C f) (C.az[j]!).a<=1000000:=fun j hj=>by have :=eF J j hj;unfold bV;rw[qah (by omega)];omega
 unfold sj eJ;split
 ·have :=key (-n-1).toNat (by omega);omega
 ·have :=key (n-1).toNat (by omega);omega
def EF(C:Pc)(i:Nat):List (List Int):=if(C.az[i]!).c=0 then[[sj C 0 (-(i:Int)-1)]]else if(C.az[i]!).c=1 then[[sj C 0 ((i:Int)+1)]]else[]
def ut(C:Pc)(k:Nat):List (List Int):=(List.range k).flatMap (EF C)
theorem CC(C:Pc)(k:Nat):ut C (k+1)=ut C k++EF C k:=by unfold ut;rw[ju,List.flatMap_append];simp
theorem zI(C:Pc)(k:Nat):(ut C k).length<=k:=by
 induction k with
 |zero=>simp[ut]
 |succ k J=>
  rw[CC,an];have :(EF C k).length<=1:=by unfold EF;split<;>(try split)<;>simp
  omega
theorem Dm(w:World)(H:Hd)(C:Pc)(h:eZ w H C)(hv:Valid C):
  Calls Tryz.prog 71 #[bY H C] w fun e w'=>∃A c hs,e= .returned (.slice A hs.length c)/\NwLs w' w.heap.size A c hs/\hs.map (·.l)=ut C C.az.length/\Fr [] w w':=by
 have HX:=ae (Cx.start w H C);have KR:=ae (iF _ H C (h.keep HX.o.fr) hv 0 (by omega));have KL:=ae (fun W (hW:Fr [] w W) n hn=>oT W H C (h.keep hW) hv 0 (by omega) n hn);have Ep:=hv.l;have HH:=ae h;have rY:=ae h.lr;clear h;obtain⟨mx,ins,az,outs,aI,aH,au,bD⟩:=C;obtain⟨iA,iC,lA,lC,oA,oC,bA,bC,vA,vC,gA,gC,nA,nC⟩:=H;simp only[bY,fv]at *;obtain⟨c0,c1,c2,c3,c4,c5,c6,c7⟩:=HX.o.cells;go_enter Tryz.func71,Tryz.ntmps71;go_wp2_with fail;refine KR.o.mono ?_;rintro e w1 ⟨rfl,di⟩;have ia:=ae (HX.o.keep di);obtain⟨e0,e1,e2,e3,e4,e5,e6,e7⟩:=ia.o.cells;clear di c0 c1 c2 c3 c4 c5 c6 c7 KR;go_wp2_with fail;go_loopg [3,12] az.length (fun g x3 Jy wr=>∃(k:Nat)(A':Option Addr)(c':Nat)(hs:List Ls),k+g=az.length/\x3= .slice A' hs.length c'/\Jy= .int .i64 k/\aj (NwLs wr (w.heap.size+1) A' c' hs)/\aj (hs.map (·.l)=ut ⟨mx,ins,az,outs,aI,aH,au,bD⟩ k)/\aj (Cx w wr ⟨iA,iC,lA,lC,oA,oC,bA,bC,vA,vC,gA,gC,nA,nC⟩ ⟨mx,ins,az,outs,aI,aH,au,bD⟩));case atStart=>exact⟨0,none,0,[],by omega,rfl,rfl,NwLs.nil _ _,rfl,ia.o⟩
 case round=>
  obtain⟨k,A',c',hs,hk,rfl,rfl,HN,HE,eh⟩:=hrel;have HK:=ae hk;have iS:k<=az.length:=by omega
  have yk:hs.length<=k:=by have :=zI ⟨mx,ins,az,outs,aI,aH,au,bD⟩ k;rw[<-HE.o,aG]at this;exact this
  obtain⟨d0,d1,d2,d3,d4,d5,d6,d7⟩:=eh.o.cells;clear hk ia e0 e1 e2 e3 e4 e5 e6 e7;by_cases bt:k<az.length
  ·obtain⟨b,o,x,y,z,hA,he,cx,cy,cz,hx,hy,hz⟩:=(HH.o.keep eh.o.fr).l.one rY.o bt;simp only at hA he;subst hA;have pL:=ae (CC ⟨mx,ins,az,outs,aI,aH,au,bD⟩ k);have di:EF ⟨mx,ins,az,outs,aI,aH,au,bD⟩ k=if z=0 then[[sj ⟨mx,ins,az,outs,aI,aH,au,bD⟩ 0 (-(k:Int)-1)]]else if z=1 then[[sj ⟨mx,ins,az,outs,aI,aH,au,bD⟩ 0 ((k:Int)+1)]]else[]:=by unfold EF;simp only[he.o]
   have dZ:=ae di;clear di;by_cases zq:z=0
   ·have b0:(z==(0:Int))=true:=by simp[zq]
    rw[qai zq]at dZ;clear zq;go_upto_region 7 with fail;obtain⟨wx,qH⟩:∃W,wr.alloc (.cells #[.int .i64 x, .int .i64 y, .int .i64 z] 62)=W:=⟨_,rfl⟩
    have xF:At wx wr.heap.size 62 #[.int .i64 x, .int .i64 y, .int .i64 z]:=qH▸At.new _ _ _;have oM:aj (Fr [] wr wx):=qH▸aR _ _;have f2:=xF.cell 2;simp at f2;have Fw:=ae (eh.o.keep oM.o);obtain⟨e0,e1,e2,e3,e4,e5,e6,e7⟩:=Fw.o.cells;rw[qH];clear qH xF d0 d1 d2 d3 d4 d5 d6 d7;have E8:=ae (KL.o wx Fw.o.fr (-(k:Int)-1) (by show _/\ -(az.length:Int)<=_/\_<=(az.length:Int);omega));obtain⟨v,oy⟩:∃v,sj ⟨mx,ins,az,outs,aI,aH,au,bD⟩ 0 (-(k:Int)-1)=v:=⟨_,rfl⟩
    rw[oy]at E8 dZ;have Bd:eJ v:=by rw[<-oy];exact M9 hv (by omega) (by simp only;omega)
    have xo:=ae Bd;clear oy Bd;have eo:IntKind.i64.wrap (-(k:Int))= -(k:Int):=IntWalk.i64_in _ (by omega);have kE:IntKind.i64.wrap (-(k:Int)-1)= -(k:Int)-1:=IntWalk.i64_in _ (by omega);go_wp2_with fail;refine E8.o.mono ?_;clear E8;rintro e J ⟨rfl,dN⟩;have dG:=ae (oM.o.ak dN);clear dN e0 e1 e2 e3 e4 e5 e6 e7 f2 cx cy cz;obtain⟨wb,fS⟩:∃W,(J.alloc (.cells #[.int .i64 v] 3)).alloc (.cells #[.slice (some ⟨J.heap.size,0,none⟩) 1 1] 22)=W:=⟨_,rfl⟩
    have nv:aj (Ints wb (some ⟨J.heap.size,0,none⟩) 1 [v]):=fS▸(gS J [v] (by simp[maxLen])).alloc _;have ib:aj (Fr [] J wb):=fS▸((aR _ _).ak (aR _ _));have nX:wb.cell? ⟨J.heap.size+1,0,none⟩=some (.slice (some ⟨J.heap.size,0,none⟩) 1 1):=by have :=(At.new (J.alloc (.cells #[.int .i64 v] 3)) 22 #[.slice (some ⟨J.heap.size,0,none⟩) 1 1]).cell 0;rw[fS]at this;simpa using this
    have uS:=ae nX;have qQ:aj (w.heap.size+1<=J.heap.size):=(aE eh.o.bx.lt dG.o.size:w.heap.size+1<=J.heap.size)
    go_wp2_with (at_builtin;(refine eM _ rfl _ _ rfl A' c' hs hs.length rfl rfl (HN.o.keep (dG.o.ak ib.o)).row ⟨J.heap.size+1,0,none⟩ 1 1 [⟨some ⟨J.heap.size,0,none⟩,1,[v]⟩] rfl rfl (fun j hj=>by(have :j=0:=by simpa using hj);subst this;rw[dQ];exact uS.o) (by simp;omega) ?_;intro A4 c4 w4 u0 fG Ns ab;have uP:=ae ((HN.o.keep dG.o).more ib.o (fun h hh=>by(have :=ag.1 hh);subst this;exact⟨nv.o,F9 xo.o,by simp,fun k hk=>by simp[ao]at hk;subst hk;exact qQ.o⟩) fG u0 Ns (aE qQ.o ib.o.size));have jr:aj (Cx w w4 ⟨iA,iC,some ⟨b,o,none⟩,lC,oA,oC,bA,bC,vA,vC,gA,gC,nA,nC⟩ ⟨mx,ins,az,outs,aI,aH,au,bD⟩):=⟨((eh.o.fr.ak dG.o).ak ib.o).trans fG (fun k hk=> .inr (by have :=HN.o.new k hk;omega)),fG.at_ ((eh.o.bx.keep dG.o).keep ib.o) (fun hm=>by have :=HN.o.new _ hm;omega)⟩;clear u0 fG Ns ab nX))
    clear fS;go_roundg (gk-1);case measure=>have :=HK.o;omega
    case rel=>exact⟨k+1,A4,c4,hs++[(⟨some ⟨J.heap.size,0,none⟩,1,[v]⟩:Ls)],by have :=HK.o;omega,by simp,by go_num,uP.o,(by rw[bE,HE.o,pL.o,dZ.o];rfl :_=_),jr.o⟩
   ·have b0:(z==(0:Int))=false:=by simp[zq]
    rw[qah zq]at dZ;by_cases pj:z=1
    ·have b1:(z==(1:Int))=true:=(by simp[pj])
     rw[qai pj]at dZ;clear zq pj;go_upto_region 7 with fail;obtain⟨wx,qH⟩:∃W,wr.alloc (.cells #[.int .i64 x, .int .i64 y, .int .i64 z] 62)=W:=⟨_,rfl⟩
     have xF:At wx wr.heap.size 62 #[.int .i64 x, .int .i64 y, .int .i64 z]:=qH▸At.new _ _ _;have oM:aj (Fr [] wr wx):=qH▸aR _ _;have f2:=xF.cell 2;simp at f2;have Fw:=ae (eh.o.keep oM.o);obtain⟨e0,e1,e2,e3,e4,e5,e6,e7⟩:=Fw.o.cells;rw[qH];clear qH xF d0 d1 d2 d3 d4 d5 d6 d7;have E8:=ae (KL.o wx Fw.o.fr ((k:Int)+1) (by show _/\ -(az.length:Int)<=_/\_<=(az.length:Int);omega));obtain⟨v,oy⟩:∃v,sj ⟨mx,ins,az,outs,aI,aH,au,bD⟩ 0 ((k:Int)+1)=v:=⟨_,rfl⟩
     rw[oy]at E8 dZ;have Bd:eJ v:=by rw[<-oy];exact M9 hv (by omega) (by simp only;omega)
     have xo:=ae Bd;clear oy Bd;have eo:IntKind.i64.wrap ((k:Int)+1)=(k:Int)+1:=IntWalk.i64_in _ (by omega);go_wp2_with fail;refine E8.o.mono ?_;clear E8;rintro e J ⟨rfl,dN⟩;have dG:=ae (oM.o.ak dN);clear dN e0 e1 e2 e3 e4 e5 e6 e7 f2 cx cy cz;obtain⟨wb,fS⟩:∃W,(J.alloc (.cells #[.int .i64 v] 3)).alloc (.cells #[.slice (some ⟨J.heap.size,0,none⟩) 1 1] 22)=W:=⟨_,rfl⟩
     have nv:aj (Ints wb (some ⟨J.heap.size,0,none⟩) 1 [v]):=fS▸(gS J [v] (by simp[maxLen])).alloc _;have ib:aj (Fr [] J wb):=fS▸((aR _ _).ak (aR _ _));have nX:wb.cell? ⟨J.heap.size+1,0,none⟩=some (.slice (some ⟨J.heap.size,0,none⟩) 1 1):=by have :=(At.new (J.alloc (.cells #[.int .i64 v] 3)) 22 #[.slice (some ⟨J.heap.size,0,none⟩) 1 1]).cell 0;rw[fS]at this;simpa using this
     have uS:=ae nX;have qQ:aj (w.heap.size+1<=J.heap.size):=(aE eh.o.bx.lt dG.o.size:w.heap.size+1<=J.heap.size)
     go_wp2_with (at_builtin;(refine eM _ rfl _ _ rfl A' c' hs hs.length rfl rfl (HN.o.keep (dG.o.ak ib.o)).row ⟨J.heap.size+1,0,none⟩ 1 1 [⟨some ⟨J.heap.size,0,none⟩,1,[v]⟩] rfl rfl (fun j hj=>by(have :j=0:=by simpa using hj);subst this;rw[dQ];exact uS.o) (by simp;omega) ?_;intro A4 c4 w4 u0 fG Ns ab;have uP:=ae ((HN.o.keep dG.o).more ib.o (fun h hh=>by(have :=ag.1 hh);subst this;exact⟨nv.o,F9 xo.o,by simp,fun k hk=>by simp[ao]at hk;subst hk;exact qQ.o⟩) fG u0 Ns (aE qQ.o ib.o.size));have jr:aj (Cx w w4 ⟨iA,iC,some ⟨b,o,none⟩,lC,oA,oC,bA,bC,vA,vC,gA,gC,nA,nC⟩ ⟨mx,ins,az,outs,aI,aH,au,bD⟩):=⟨((eh.o.fr.ak dG.o).ak ib.o).trans fG (fun k hk=> .inr (by have :=HN.o.new k hk;omega)),fG.at_ ((eh.o.bx.keep dG.o).keep ib.o) (fun hm=>by have :=HN.o.new _ hm;omega)⟩;clear u0 fG Ns ab nX))
     clear fS;go_roundg (gk-1);case measure=>have :=HK.o;omega
     case rel=>exact⟨k+1,A4,c4,hs++[(⟨some ⟨J.heap.size,0,none⟩,1,[v]⟩:Ls)],by have :=HK.o;omega,by simp,by go_num,uP.o,(by rw[bE,HE.o,pL.o,dZ.o];rfl :_=_),jr.o⟩
    ·have b1:(z==(1:Int))=false:=(by simp[pj])
     rw[qah pj]at dZ;clear zq pj;go_upto_region 7 with fail;obtain⟨wx,qH⟩:∃W,wr.alloc (.cells #[.int .i64 x, .int .i64 y, .int .i64 z] 62)=W:=⟨_,rfl⟩
     have xF:At wx wr.heap.size 62 #[.int .i64 x, .int .i64 y, .int .i64 z]:=qH▸At.new _ _ _;have oM:aj (Fr [] wr wx):=qH▸aR _ _;have f2:=xF.cell 2;simp at f2;have Fw:=ae (eh.o.keep oM.o);obtain⟨e0,e1,e2,e3,e4,e5,e6,e7⟩:=Fw.o.cells;rw[qH];clear qH xF d0 d1 d2 d3 d4 d5 d6 d7;go_wp2;go_roundg (gk-1);case measure=>have :=HK.o;omega
     case rel=>exact⟨k+1,A',c',hs,by have :=HK.o;omega,rfl,by go_num,HN.o.keep oM.o,(by rw[HE.o,pL.o,dZ.o,cq]:_=_),eh.o.keep oM.o⟩
  ·obtain rfl :k=az.length:=by omega
   clear HK;go_wp2;go_ret;exact⟨A',c',hs,rfl,HN.o.low (by omega),HE.o,eh.o.fr⟩
def VT(C:Pc)(l:List Int):Bool:= !(lX (C.az.length:Int) l==0)
theorem akt(W:World)(g:Nat)(A:Option Addr)(n c:Nat)(hc:W.cell? ⟨g,2,none⟩=some (.slice A n c))(C:Pc)(hn:n=C.az.length)(h:Ls)(hk:Yf W h):
    Calls Tryz.prog 25 #[h.val, .pointer (some ⟨g,0,none⟩)] W fun e w'=>e= .returned (.bool (VT C h.l))/\Fr [] W w':=by
  subst hn;obtain⟨B,d,l⟩:=h;have KL:=ae (kT W (C.az.length:Int) B d l hk.1 hk.2.1);show Calls Tryz.prog 25 #[.slice B l.length d, .pointer (some ⟨g,0,none⟩)] W fun e w'=>e= .returned (.bool (VT C l))/\Fr [] W w';obtain⟨k,J⟩:∃k,lX (C.az.length:Int) l=k:=⟨_,rfl⟩
  rw[J]at KL;have hu:VT C l=(k !=0):=by unfold VT;rw[J];rfl
  rw[hu];clear hk J hu;go_enter Tryz.func25,Tryz.ntmps25;go_wp2_with fail;refine KL.o.mono ?_;rintro e w2 ⟨rfl,hf⟩;have HF:=ae hf;clear hf;go_wp2;go_ret;exact⟨rfl,HF.o⟩
theorem Id:∀args w,(callFunc 25 args).run Tryz.prog w= .ok (.enter 25 args) w:=enters_of Tryz.func25 (by kernel_rfl) rfl
open Classical in
noncomputable def uV(q:Qn):Int:=
  if ¬Valid q.C then 9
  else if q.bad<0\/(q.C.aI.length:Int)<=q.bad\/q.dep<0\/80<=q.dep\/q.ji<0\/1099511627776<q.ji then 4
  else if 64<(q.am.length:Int)\/64<(q.ls.length:Int)\/256<(q.ks.length:Int)then 3
  else if(q.am.any fun h=>oW q.C.mx h.l)=true\/(q.ls.any fun h=>oW q.C.mx h.l)=true then 23
  else if(q.ks.any fun h=>VT q.C h.l)=true then 23 else 0
set_option maxRecDepth 100000 in
theorem lH(w:World)(H:Qh)(q:Qn)(h:uO w H q):
    Calls Tryz.prog 9 #[mv H q] w fun e w'=>e= .returned (.int .i64 (uV q))/\Fr [] w w':=by
  obtain⟨w1,eo⟩:∃W,w.alloc (.cells (pH H q) 40)=W:=⟨_,rfl⟩
  obtain⟨w2,kE⟩:∃W,w1.alloc (.cells (fv H.H q.C) 27)=W:=⟨_,rfl⟩
  have di:Fr [] w w1:=eo▸cQ _ _;have cE:Fr [] w1 w2:=kE▸cQ _ _;have df:=ae (di.ak cE);have nU:At w1 w.heap.size 40 (pH H q):=eo▸At.new _ _ _;have vW:=ae (nU.keep cE);have pM:aj (At w2 w1.heap.size 27 (fv H.H q.C)):=kE▸At.new _ _ _;have HH:=ae (h.keep df.o);have nM:w1.heap.size=w.heap.size+1:=by rw[<-eo];simp
  obtain⟨r,hr⟩:∃r,uV q=r:=⟨_,rfl⟩
  rw[hr];have HR:=ae hr;have KC:=ae (nt w2 H.H q.C HH.o.c);have IT:=ae (fun W=>Dw W H.H q.C);obtain⟨⟨mx,ins,az,outs,aI,aH,au,bD⟩,am,ls,ks,bad,dep,ji⟩:=q;obtain⟨⟨iA,iC,lA,lC,oA,oC,bA,bC,vA,vC,gA,gC,nA,nC⟩,aA,aC,mA,mC,kA,kC⟩:=H;simp only[mv,pH,bY,fv]at *;have p0:=nU.cell 0;have p1:=nU.cell 1;have p2:=nU.cell 2;have p3:=nU.cell 3;have p4:=nU.cell 4;have p5:=nU.cell 5;have p6:=nU.cell 6;have p7:=nU.cell 7;have q0:=vW.o.cell 0;have q1:=vW.o.cell 1;have q2:=vW.o.cell 2;have q3:=vW.o.cell 3;have q4:=vW.o.cell 4;have q5:=vW.o.cell 5;have q6:=vW.o.cell 6;have q7:=vW.o.cell 7;have q8:=vW.o.cell 8;have q9:=vW.o.cell 9;have jG:=vW.o.cell 10;have jF:=vW.o.cell 11;have jL:=vW.o.cell 12;have jR:=vW.o.cell 13;have c0:=pM.o.cell 0;have c1:=pM.o.cell 1;have c2:=pM.o.cell 2;have c3:=pM.o.cell 3;have c4:=pM.o.cell 4;have c5:=pM.o.cell 5;have c6:=pM.o.cell 6;have c7:=pM.o.cell 7;simp at p0 p1 p2 p3 p4 p5 p6 p7;simp at q0 q1 q2 q3 q4 q5 q6 q7 q8 q9 jG jF jL jR c0 c1 c2 c3 c4 c5 c6 c7;rw[nM]at c0 c1 c2 c3 c4 c5 c6 c7;have HS:=ae nM;clear h hr di cE nU;go_enter Tryz.func9,Tryz.ntmps9;go_upto_region 2 with fail;go_wp2_with fail;refine KC.o.mono ?_;clear KC p0 p1 p2 p3 p4 p5 p6 p7 q0 q1 q2 q3 q4 q5 q6 q7 q8 q9 jG jF jL jR c0 c1 c2 c3 c4 c5 c6 c7 eo kE;rintro e w3 ⟨hc,dN⟩;have dG:=ae (df.o.ak dN);have Z5:=ae (vW.o.keep dN);have I5:=ae (pM.o.keep dN);have Rb:=ae (HH.o.keep dN);have bj:aj ((e= .returned (.int .i64 0)/\Valid ⟨mx,ins,az,outs,aI,aH,au,bD⟩)\/(e= .returned (.int .i64 9)/\¬Valid ⟨mx,ins,az,outs,aI,aH,au,bD⟩)):=hc;clear hc dN vW pM HH;rcases bj.o with⟨rfl,hv⟩ |⟨rfl,hv⟩
  . have HV:=ae hv;clear hv bj;have q8:=Z5.o.cell 8;have q9:=Z5.o.cell 9;have jG:=Z5.o.cell 10;have jF:=Z5.o.cell 11;have jL:=Z5.o.cell 12;have jR:=Z5.o.cell 13;have c4:=I5.o.cell 4;simp at q8 q9 jG jF jL jR c4;rw[nM]at c4;by_cases h1:bad<0
    . have d1:decide (bad<0)=true:=qak (by omega);have np:r=4:=by rw[<-HR.o];unfold uV;rw[qah (fun h=>h HV.o),qai (by simp only;omega)]
      subst np;clear h1;go_wp2;go_ret;exact⟨rfl,dG.o⟩
    . have d1:decide (bad<0)=false:=qaj (by omega);by_cases h2:(aI.length:Int)<=bad
      . have d2:decide ((aI.length:Int)<=bad)=true:=qak (by omega);have np:r=4:=by rw[<-HR.o];unfold uV;rw[qah (fun h=>h HV.o),qai (by simp only;omega)]
        subst np;clear h2;go_wp2;go_ret;exact⟨rfl,dG.o⟩
      . have d2:decide ((aI.length:Int)<=bad)=false:=qaj (by omega);by_cases h3:dep<0
        . have d3:decide (dep<0)=true:=qak (by omega);have np:r=4:=by rw[<-HR.o];unfold uV;rw[qah (fun h=>h HV.o),qai (by simp only;omega)]
          subst np;clear h3;go_wp2;go_ret;exact⟨rfl,dG.o⟩
        . have d3:decide (dep<0)=false:=qaj (by omega);by_cases h4:80<=dep
          . have d4:decide (80<=dep)=true:=qak (by omega);have np:r=4:=by rw[<-HR.o];unfold uV;rw[qah (fun h=>h HV.o),qai (by simp only;omega)]
            subst np;clear h4;go_wp2;go_ret;exact⟨rfl,dG.o⟩
          . have d4:decide (80<=dep)=false:=qaj (by omega);by_cases h5:ji<0
            . have d5:decide (ji<0)=true:=qak (by omega);have np:r=4:=by rw[<-HR.o];unfold uV;rw[qah (fun h=>h HV.o),qai (by simp only;omega)]
              subst np;clear h5;go_wp2;go_ret;exact⟨rfl,dG.o⟩
            . have d5:decide (ji<0)=false:=qaj (by omega);by_cases h6:1099511627776<ji
              . have d6:decide (1099511627776<ji)=true:=qak (by omega);have np:r=4:=by rw[<-HR.o];unfold uV;rw[qah (fun h=>h HV.o),qai (by simp only;omega)]
                subst np;clear h6;go_wp2;go_ret;exact⟨rfl,dG.o⟩
              . have d6:decide (1099511627776<ji)=false:=qaj (by omega);by_cases h7:64<(am.length:Int)
                . have d7:decide (64<(am.length:Int))=true:=qak (by omega);have np:r=3:=by rw[<-HR.o];unfold uV;rw[qah (fun h=>h HV.o),qah (by simp only;omega),qai (by simp only;omega)]
                  subst np;clear h7;go_wp2;go_ret;exact⟨rfl,dG.o⟩
                . have d7:decide (64<(am.length:Int))=false:=qaj (by omega);by_cases h8:64<(ls.length:Int)
                  . have d8:decide (64<(ls.length:Int))=true:=qak (by omega);have np:r=3:=by rw[<-HR.o];unfold uV;rw[qah (fun h=>h HV.o),qah (by simp only;omega),qai (by simp only;omega)]
                    subst np;clear h8;go_wp2;go_ret;exact⟨rfl,dG.o⟩
                  . have d8:decide (64<(ls.length:Int))=false:=qaj (by omega);by_cases h9:256<(ks.length:Int)
                    . have d9:decide (256<(ks.length:Int))=true:=qak (by omega);have np:r=3:=by rw[<-HR.o];unfold uV;rw[qah (fun h=>h HV.o),qah (by simp only;omega),qai (by simp only;omega)]
                      subst np;clear h9;go_wp2;go_ret;exact⟨rfl,dG.o⟩
                    . have d9:decide (256<(ks.length:Int))=false:=qaj (by omega);have HI:aj (uV ⟨⟨mx,ins,az,outs,aI,aH,au,bD⟩,am,ls,ks,bad,dep,ji⟩=if(am.any fun h=>oW mx h.l)=true\/(ls.any fun h=>oW mx h.l)=true then 23 else if(ks.any fun h=>VT ⟨mx,ins,az,outs,aI,aH,au,bD⟩ h.l)=true then 23 else 0):=by show _=_;unfold uV;rw[qah (fun h=>h HV.o),qah (by simp only;omega),qah (by simp only;omega)]
                      rw[HR.o]at HI;have uY:=HV.o.m0;have sl:=HV.o.m1;simp only at uY sl;have KA:aj (∀(l:List Ls)(A:Option Addr)(c:Nat),N4 w3 A l->l.length<=17592186044416->∀(W:World)(g:Nat),W.cell? ⟨g,0,none⟩=some (.int .i64 mx)->Fr [] w3 W->Calls Tryz.prog 23 #[.slice A l.length c, .func (.func 51) #[] #[.pointer (some ⟨g,0,none⟩)]] W fun e w'=>e= .returned (.bool (l.any fun h=>oW mx h.l))/\Fr [] W w'):=
                        fun l A c hl hn W g hg hW=>qO W A c l 51 #[.pointer (some ⟨g,0,none⟩)] (oW mx) xQ (hl.keep hW) hn (fun W' Vp h _ ok=>Ru W' g mx (Vp.aF hg) uY sl h ok)
                      have KB:aj (∀W,Fr [] w3 W->Calls Tryz.prog 23 #[.slice kA ks.length kC, .func (.func 25) #[] #[.pointer (some ⟨w.heap.size+1,0,none⟩)]] W fun e w'=>e= .returned (.bool (ks.any fun h=>VT ⟨mx,ins,az,outs,aI,aH,au,bD⟩ h.l))/\Fr [] W w'):=by have c2:=I5.o.cell 2;simp at c2;rw[nM]at c2;have pR:=Rb.o.kL;simp only at pR;exact fun W hW=>qO W kA kC ks 25 #[.pointer (some ⟨w.heap.size+1,0,none⟩)] (VT ⟨mx,ins,az,outs,aI,aH,au,bD⟩) Id (Rb.o.k.keep hW) (by omega) (fun W' Vp h _ ok=>akt W' _ _ _ _ ((hW.ak Vp).aF c2) ⟨mx,ins,az,outs,aI,aH,au,bD⟩ rfl h ok)
                      obtain⟨a1,XE⟩:∃b,(am.any fun h=>oW mx h.l)=b:=⟨_,rfl⟩
                      obtain⟨a2,uq⟩:∃b,(ls.any fun h=>oW mx h.l)=b:=⟨_,rfl⟩
                      obtain⟨a3,bB⟩:∃b,(ks.any fun h=>VT ⟨mx,ins,az,outs,aI,aH,au,bD⟩ h.l)=b:=⟨_,rfl⟩
                      have ab:=KA.o am aA aC Rb.o.a (by have :=Rb.o.aL;simp only at this;omega);have ad:=KA.o ls mA mC Rb.o.l (by have :=Rb.o.lL;simp only at this;omega);rw[XE]at ab HI;rw[uq]at ad HI;rw[bB]at HI KB;have ab:=ae ab;have ad:=ae ad;have c0:=I5.o.cell 0;have c1:=I5.o.cell 1;have c2:=I5.o.cell 2;have c3:=I5.o.cell 3;have c5:=I5.o.cell 5;have c6:=I5.o.cell 6;have c7:=I5.o.cell 7;simp at c0 c1 c2 c3 c5 c6 c7;rw[nM]at c0 c1 c2 c3 c5 c6 c7;have YQ:=ae c0;have FB:=ae c1;have aB:=ae c2;have aK:=ae c3;have YP:=ae c4;have aT:=ae c5;have ba:=ae c6;have bb:=ae c7;have U6:=ae q8;have bg:=ae q9;have bG:=ae jG;clear KA XE uq bB uY sl c0 c1 c2 c3 c5 c6 c7;go_upto_region 8 with fail;clear c4 q8 q9 jG jF jL jR;cases a1 with
                      |true=>
                        have np:r=23:=by rw[HI.o];rfl
                        subst np;refine qan ?_;refine bw (fun w':World=>Fr [] w3 w') 4 (by kernel_rfl) ((Fr.refl [] w3).drew) (fun dy=> ?_);refine oI 3 [(0,[]),(1,[1,4]),(2,[2,3,4])] dy (fun w bT=>And.intro (bT.aF YQ.o) (And.intro (bT.aF FB.o) (And.intro (bT.aF aB.o) (And.intro (bT.aF aK.o) (And.intro (bT.aF YP.o) (And.intro (bT.aF aT.o) (And.intro (bT.aF ba.o) (And.intro (bT.aF bb.o) (And.intro (bT.aF U6.o) (bT.aF bg.o)))))))))) ?_;intro dy;refine R2 3 dy fun K hK J=> ?_
                        (go_simp;refine(IT.o _).mono ?_;rintro e w5 ⟨g5,rfl,QT,Tl⟩;dsimp only)
                        refine hK.out _ _ (.inr ?_) (fun bo=> ?_)
                        . first |exact J.ak kc |exact J.ak Xr |exact J.ak gQ |exact J.ak Tl |exact J
                        clear hK K;try simp only[Act.put,q5,q6,q7]
                        refine R2 4 bo fun K hK J=> ?_
                        (go_simp;refine(ab.o _ _ QT J).mono ?_;rintro e w6 ⟨rfl,gQ⟩;dsimp only)
                        refine hK.out _ _ (.inl rfl) (fun ar=> ?_);clear hK K;try simp only[Act.put,q5,q6,q7]
                        repeat' first
                          |exact cM.nil
                          |refine cM.cons rfl ?_ ?_
                          | (intro K hK
                             go_simp;refine hK.out _ _ (.inl rfl) (fun bI=> ?_);clear hK K;try simp only[Act.put,q5,q6,q7])
                          |refine aY (rs:=[5]) (by decide+kernel) (by simp) ?_
                          |refine aY (rs:=[6,8]) (by decide+kernel) (by simp) ?_
                          |refine aY (rs:=[7,8]) (by decide+kernel) (by simp) ?_
                          |refine aY (rs:=[8]) (by decide+kernel) (by simp) ?_
                          |refine aY (rs:=[9]) (by decide+kernel) (by simp) ?_
                          |refine aY (rs:=[10]) (by decide+kernel) (by simp) ?_
                          |refine aY (rs:=[11]) (by decide+kernel) (by simp) ?_
                          |refine aY (rs:=[12]) (by decide+kernel) (by simp) ?_
                          |refine aY (rs:=[7,9]) (by decide+kernel) (by simp) ?_
                          |refine aY (rs:=[7]) (by decide+kernel) (by simp) ?_
                          |refine aY (rs:=[6,9]) (by decide+kernel) (by simp) ?_
                          |refine aY (rs:=[6]) (by decide+kernel) (by simp) ?_
                          | (refine m6 (by decide+kernel) ?_ _
                             refine NoPanic.normal ?_;have rL:=ae (J.ak gQ);clear J gQ;go_wp2;go_ret;exact⟨rfl,dG.o.ak rL.o⟩)
                      |false=>
                        refine qan ?_;refine bw (fun w':World=>Fr [] w3 w') 10 (by kernel_rfl) ((Fr.refl [] w3).drew) (fun dy=> ?_);refine oI 3 [(0,[]),(1,[1,4,5,10]),(2,[2,3,4,5,10])] dy (fun w bT=>And.intro (bT.aF YQ.o) (And.intro (bT.aF FB.o) (And.intro (bT.aF aB.o) (And.intro (bT.aF aK.o) (And.intro (bT.aF YP.o) (And.intro (bT.aF aT.o) (And.intro (bT.aF ba.o) (And.intro (bT.aF bb.o) (And.intro (bT.aF U6.o) (bT.aF bg.o)))))))))) ?_;intro dy;refine R2 3 dy fun K hK J=> ?_
                        (go_simp;refine(IT.o _).mono ?_;rintro e w5 ⟨g5,rfl,QT,Tl⟩;dsimp only)
                        refine hK.out _ _ (.inr ?_) (fun bo=> ?_)
                        . first |exact J.ak kc |exact J.ak Xr |exact J.ak gQ |exact J.ak Tl |exact J
                        clear hK K;try simp only[Act.put,q5,q6,q7]
                        refine R2 4 bo fun K hK J=> ?_
                        (go_simp;refine(ab.o _ _ QT J).mono ?_;rintro e w6 ⟨rfl,gQ⟩;dsimp only)
                        refine hK.out _ _ (.inr ?_) (fun ar=> ?_)
                        . first |exact J.ak kc |exact J.ak Xr |exact J.ak gQ |exact J.ak Tl |exact J
                        clear hK K;try simp only[Act.put,q5,q6,q7]
                        refine oI 4 [(5,[]),(6,[]),(7,[7,10]),(8,[8,9,10])] ar (fun w bT=>And.intro (bT.aF YQ.o) (And.intro (bT.aF FB.o) (And.intro (bT.aF aB.o) (And.intro (bT.aF aK.o) (And.intro (bT.aF YP.o) (And.intro (bT.aF aT.o) (And.intro (bT.aF ba.o) (And.intro (bT.aF bb.o) (And.intro (bT.aF U6.o) (bT.aF bg.o)))))))))) ?_;intro ar;refine R2 9 ar fun K hK J=> ?_
                        (go_simp;refine(IT.o _).mono ?_;rintro e w7 ⟨g7,rfl,Tk,Xr⟩;dsimp only)
                        refine hK.out _ _ (.inr ?_) (fun kG=> ?_)
                        . first |exact J.ak kc |exact J.ak Xr |exact J.ak gQ |exact J.ak Tl |exact J
                        clear hK K;try simp only[Act.put,q5,q6,q7]
                        refine R2 10 kG fun K hK J=> ?_
                        (go_simp;refine(ad.o _ _ Tk J).mono ?_;rintro e w8 ⟨rfl,kc⟩;dsimp only)
                        refine hK.out _ _ (.inl rfl) (fun nO=> ?_);clear hK K;try simp only[Act.put,q5,q6,q7]
                        repeat' first
                          |exact cM.nil
                          |refine cM.cons rfl ?_ ?_
                          | (intro K hK
                             go_simp;refine hK.out _ _ (.inl rfl) (fun bI=> ?_);clear hK K;try simp only[Act.put,q5,q6,q7])
                          |refine aY (rs:=[11]) (by decide+kernel) (by simp) ?_
                          |refine aY (rs:=[12]) (by decide+kernel) (by simp) ?_
                          | (refine m6 (by decide+kernel) ?_ _
                             refine NoPanic.normal ?_;have rL:=ae (J.ak kc);clear J kc;cases a2 with
                             |true=>
                               have np:r=23:=by rw[HI.o];simp
                               subst np;go_wp2;go_ret;exact⟨rfl,dG.o.ak rL.o⟩
                             |false=>
                               have jG:=rL.o.aF bG.o;have bt:=ae (KB.o _ rL.o);cases a3 with
                               |true=>
                                 have np:r=23:=by rw[HI.o];simp
                                 subst np;go_wp2_with fail;refine bt.o.mono ?_;rintro e w9 ⟨rfl,rT⟩;have th:=ae (rL.o.ak rT);clear rT;go_wp2;go_ret;exact⟨rfl,dG.o.ak th.o⟩
                               |false=>
                                 have np:r=0:=by rw[HI.o];simp
                                 subst np;go_wp2_with fail;refine bt.o.mono ?_;rintro e w9 ⟨rfl,rT⟩;have th:=ae (rL.o.ak rT);clear rT;go_wp2;go_ret;exact⟨rfl,dG.o.ak th.o⟩)
  . have Jd:r=9:=by rw[<-HR.o];unfold uV;rw[qai hv]
    subst Jd;clear hv bj;go_wp2;go_ret;exact⟨rfl,dG.o⟩
theorem FI{C:Pc}(h:Valid C){v:Int}(hk:gP C v=true):v<=C.mx:=by
 simp only[gP,dI,qam,cP,hit,ax]at hk;have h0:=h.m0;rcases hk with((rfl |⟨x,J,_,rfl⟩) |⟨x,J,_,rfl⟩) |⟨x,J,_,rfl⟩
 ·exact h0
 ·have :=eE h x (by simp[cm,J]);omega
 ·have :=eE h x.a (by simp only[cm,ah,aN];exact .inl (.inr ⟨x,J,rfl⟩));omega
 ·have :=eE h x.a (by simp only[cm,ah,aN];exact .inr ⟨x,J,rfl⟩);omega
theorem fI{C:Pc}(h:Valid C){l:Int}(hk:fh C l=true):0<=l/\l<=2*C.mx+1:=by simp only[fh,ax,qam]at hk;have :=FI h hk.2;omega
theorem mj{C:Pc}(h:Valid C)(j:Nat)(hj:j<C.az.length):0<=(C.az[j]!).b/\(C.az[j]!).b<=2*C.mx+1:=by have J:=h.az j hj;simp only[Bb,ax]at J;exact fI h J.2
theorem mz{b l:Int}(J:0<=b/\b<=262144)(hl:0<=l/\l<=4097): -1000000<=bV b l/\bV b l<=1000000:=by unfold bV;split<;>omega
theorem yf{C:Pc}(J:Valid C){f n:Int}(hf:0<=f/\f<=81)(hn:n≠0/\ -(C.az.length:Int)<=n/\n<=C.az.length): -1000000<=sj C f n/\sj C f n<=1000000:=by
 have hb:=jp J.m0 J.m1 hf;have hm:=J.m1;have key:∀j:Nat,j<C.az.length-> -1000000<=bV (cu C f) (C.az[j]!).a/\bV (cu C f) (C.az[j]!).a<=1000000:=fun j hj=>mz (by omega) (by have :=eF J j hj;omega);unfold sj;split
 ·have :=key (-n-1).toNat (by omega);omega
 ·have :=key (n-1).toNat (by omega);omega
def Gy(C:Pc)(f:Int)(i:Nat):List (List Int):=[[sj C (f+1) ((i:Int)+1),-(bV (cu C f) (C.az[i]!).b)],[-(sj C (f+1) ((i:Int)+1)),bV (cu C f) (C.az[i]!).b]]
def oo(C:Pc)(f:Int)(k:Nat):List (List Int):=(List.range k).flatMap (Gy C f)
theorem Ch(C:Pc)(f:Int)(k:Nat):oo C f (k+1)=oo C f k++Gy C f k:=by unfold oo;rw[ju,List.flatMap_append];simp
theorem ud(C:Pc)(f:Int)(k:Nat):(oo C f k).length=2*k:=by
 induction k with
 |zero=>simp[oo]
 |succ k J=>
  rw[Ch,an,J];simp[Gy];omega
theorem V6{x y:Int}(h:eJ x)(J:eJ y):Ra [x,y]:=fun j hj=>by
 have :j=0\/j=1:=by simp at hj;omega
 rcases this with rfl |rfl
 ·exact h
 ·exact J
theorem FO(w:World)(H:Hd)(C:Pc)(h:eZ w H C)(hv:Valid C)(f:Int)(hf:0<=f/\f<=79):
  Calls Tryz.prog 72 #[bY H C, .int .i64 f] w fun e w'=>∃A c hs,e= .returned (.slice A hs.length c)/\NwLs w' w.heap.size A c hs/\hs.map (·.l)=oo C f C.az.length/\Fr [] w w':=by
 have HX:=ae (Cx.start w H C);have KR:=ae (iF _ H C (h.keep HX.o.fr) hv f (by omega));have KL:=ae (fun W (hW:Fr [] w W) n hn=>oT W H C (h.keep hW) hv (f+1) (by omega) n hn);have KB:=ae (fun W=>m8 W H C hv.m0 hv.m1 f (by omega));have hb:=jp hv.m0 hv.m1 (f:=f) (by omega);have KT:=ae (fun W x (hx:0<=x/\x<=4097)=>vz W (cu C f) x (by omega) hx);have xr:=ae (fun x (hx:0<=x/\x<=4097)=>mz (b:=cu C f) (l:=x) (by omega) hx);have Fc:=ae (fun n hn=>yf hv (f:=f+1) (n:=n) (by omega) hn);have pL:=ae (fun j hj=>mj hv j hj);have tn:=hv.m1;have Ep:=hv.l;have HH:=ae h;have rY:=ae h.lr;have aK:IntKind.i64.wrap (f+1)=f+1:=IntWalk.i64_in _ (by omega);clear h hb hv;obtain⟨mx,ins,az,outs,aI,aH,au,bD⟩:=C;obtain⟨iA,iC,lA,lC,oA,oC,bA,bC,vA,vC,gA,gC,nA,nC⟩:=H;simp only[bY,fv]at *;obtain⟨c0,c1,c2,c3,c4,c5,c6,c7⟩:=HX.o.cells;go_enter Tryz.func72,Tryz.ntmps72;go_wp2_with fail;refine KR.o.mono ?_;rintro e w1 ⟨rfl,di⟩;have ia:=ae (HX.o.keep di);obtain⟨e0,e1,e2,e3,e4,e5,e6,e7⟩:=ia.o.cells;clear di c0 c1 c2 c3 c4 c5 c6 c7 KR;go_wp2_with fail;go_loopg [5,17] az.length (fun g x5 MA wr=>∃(k:Nat)(A':Option Addr)(c':Nat)(hs:List Ls),k+g=az.length/\x5= .slice A' hs.length c'/\MA= .int .i64 k/\aj (NwLs wr (w.heap.size+1) A' c' hs)/\aj (hs.map (·.l)=oo ⟨mx,ins,az,outs,aI,aH,au,bD⟩ f k)/\aj (Cx w wr ⟨iA,iC,lA,lC,oA,oC,bA,bC,vA,vC,gA,gC,nA,nC⟩ ⟨mx,ins,az,outs,aI,aH,au,bD⟩));case atStart=>exact⟨0,none,0,[],by omega,rfl,rfl,NwLs.nil _ _,rfl,ia.o⟩
 case round=>
  obtain⟨k,A',c',hs,hk,rfl,rfl,HN,HE,eh⟩:=hrel;have HK:=ae hk;have iS:k<=az.length:=by omega
  have yk:hs.length=2*k:=by have :=ud ⟨mx,ins,az,outs,aI,aH,au,bD⟩ f k;rw[<-HE.o,aG]at this;exact this
  obtain⟨d0,d1,d2,d3,d4,d5,d6,d7⟩:=eh.o.cells;clear hk ia e0 e1 e2 e3 e4 e5 e6 e7;by_cases bt:k<az.length
  ·obtain⟨b,o,x,y,z,hA,he,cx,cy,cz,hx,hy,hz⟩:=(HH.o.keep eh.o.fr).l.one rY.o bt;simp only at hA he;subst hA;have Fk:=pL.o k bt;try simp only at Fk
   rw[he.o]at Fk;try simp only at Fk
   have CU:=ae (Ch ⟨mx,ins,az,outs,aI,aH,au,bD⟩ f k);obtain⟨u,hu⟩:∃u,bV (cu ⟨mx,ins,az,outs,aI,aH,au,bD⟩ f) y=u:=⟨_,rfl⟩
   obtain⟨v,yh⟩:∃v,sj ⟨mx,ins,az,outs,aI,aH,au,bD⟩ (f+1) ((k:Int)+1)=v:=⟨_,rfl⟩
   have di:Gy ⟨mx,ins,az,outs,aI,aH,au,bD⟩ f k=[[v,-u],[-v,u]]:=by unfold Gy;rw[yh];simp only[he.o];rw[hu]
   have dZ:=ae di;have ar:=xr.o y (by omega);have Bd:=Fc.o ((k:Int)+1) (by show _/\ -(az.length:Int)<=_/\_<=(az.length:Int);omega);rw[hu]at ar;rw[yh]at Bd;have ab:=fun W=>KT.o W y (by omega);simp only[hu]at ab;have ab:=ae ab;clear di;go_upto_region 7 with fail;obtain⟨wx,qH⟩:∃W,wr.alloc (.cells #[.int .i64 x, .int .i64 y, .int .i64 z] 62)=W:=⟨_,rfl⟩
   have xF:At wx wr.heap.size 62 #[.int .i64 x, .int .i64 y, .int .i64 z]:=qH▸At.new _ _ _;have oM:aj (Fr [] wr wx):=qH▸aR _ _;have f1:=xF.cell 1;simp at f1;have Fw:=ae (eh.o.keep oM.o);obtain⟨e0,e1,e2,e3,e4,e5,e6,e7⟩:=Fw.o.ext;have g1:=Ext.cell f1;have E8:=fun u:Ext wx=>KL.o u.v (Fw.o.fr.ak u.fr) ((k:Int)+1) (by show _/\ -(az.length:Int)<=_/\_<=(az.length:Int);omega);simp only[yh]at E8;have E8:=ae E8;have eo:IntKind.i64.wrap ((k:Int)+1)=(k:Int)+1:=IntWalk.i64_in _ (by omega);have kE:IntKind.i64.wrap (-u)= -u:=IntWalk.i64_in _ (by omega);have ow:IntKind.i64.wrap (-v)= -v:=IntWalk.i64_in _ (by omega);rw[qH];clear qH xF d0 d1 d2 d3 d4 d5 d6 d7 cx cy cz hu yh f1;refine ap ?_;repeat (go_big_quiet_step (first |exact bf (E8.o _) |exact bf (KB.o _) |exact bp (ab.o _)))
   refine fq ?_;intro J qU;have dG:=ae (oM.o.ak qU.o);clear e0 e1 e2 e3 e4 e5 e6 e7 g1 E8 ab qU;obtain⟨wb,fS⟩:∃W,((J.alloc (.cells #[.int .i64 v, .int .i64 (-u)] 3)).alloc (.cells #[.int .i64 (-v), .int .i64 u] 3)).alloc (.cells #[.slice (some ⟨J.heap.size,0,none⟩) 2 2, .slice (some ⟨J.heap.size+1,0,none⟩) 2 2] 22)=W:=⟨_,rfl⟩
   have nv:aj (Ints wb (some ⟨J.heap.size,0,none⟩) 2 [v,-u]):=fS▸((gS J [v,-u] (by simp[maxLen])).alloc _).alloc _;have n8:aj (Ints wb (some ⟨J.heap.size+1,0,none⟩) 2 [-v,u]):=by have :=gS (J.alloc (.cells #[.int .i64 v, .int .i64 (-u)] 3)) [-v,u] (by simp[maxLen]);rw[show(J.alloc (.cells #[.int .i64 v, .int .i64 (-u)] 3)).heap.size=J.heap.size+1 by simp]at this;exact fS▸this.alloc _
   have ib:aj (Fr [] J wb):=fS▸(((aR _ _).ak (aR _ _)).ak (aR _ _));have j4:At wb (J.heap.size+2) 22 #[.slice (some ⟨J.heap.size,0,none⟩) 2 2, .slice (some ⟨J.heap.size+1,0,none⟩) 2 2]:=by have :=At.new ((J.alloc (.cells #[.int .i64 v, .int .i64 (-u)] 3)).alloc (.cells #[.int .i64 (-v), .int .i64 u] 3)) 22 #[.slice (some ⟨J.heap.size,0,none⟩) 2 2, .slice (some ⟨J.heap.size+1,0,none⟩) 2 2];rw[show((J.alloc (.cells #[.int .i64 v, .int .i64 (-u)] 3)).alloc (.cells #[.int .i64 (-v), .int .i64 u] 3)).heap.size=J.heap.size+2 by simp]at this;exact fS▸this
   have CZ:=ae j4;clear j4;have ad:=ae ar;have xo:=ae Bd;have qQ:aj (w.heap.size+1<=J.heap.size):=(aE eh.o.bx.lt dG.o.size:w.heap.size+1<=J.heap.size)
   go_wp2_with (at_builtin;(refine eM _ rfl _ _ rfl A' c' hs hs.length rfl rfl (HN.o.keep (dG.o.ak ib.o)).row ⟨J.heap.size+2,0,none⟩ 2 2 [⟨some ⟨J.heap.size,0,none⟩,2,[v,-u]⟩,⟨some ⟨J.heap.size+1,0,none⟩,2,[-v,u]⟩] rfl rfl (fun j hj=>by(have :j=0\/j=1:=by simp at hj;omega);rcases this with rfl |rfl;(rw[dQ,CZ.o.cell];rfl);(rw[dQ,CZ.o.cell];rfl)) (by simp;omega) ?_;intro A4 c4 w4 u0 fG Ns aB;have uP:=ae ((HN.o.keep dG.o).more ib.o (fun h hh=>by(have Ti:=hh;simp only[ay,bi,or_false]at Ti);rcases Ti with rfl |rfl;(exact⟨nv.o,V6 ⟨by have :=xo.o;omega,by have :=xo.o;omega⟩ ⟨by have :=ad.o;omega,by have :=ad.o;omega⟩,by simp,fun k hk=>by simp[ao]at hk;subst hk;exact qQ.o⟩);(exact⟨n8.o,V6 ⟨by have :=xo.o;omega,by have :=xo.o;omega⟩ ⟨by have :=ad.o;omega,by have :=ad.o;omega⟩,by simp,fun k hk=>by simp[ao]at hk;subst hk;have :=qQ.o;omega⟩)) fG u0 Ns (aE qQ.o ib.o.size));have jr:aj (Cx w w4 ⟨iA,iC,some ⟨b,o,none⟩,lC,oA,oC,bA,bC,vA,vC,gA,gC,nA,nC⟩ ⟨mx,ins,az,outs,aI,aH,au,bD⟩):=⟨((eh.o.fr.ak dG.o).ak ib.o).trans fG (fun k hk=> .inr (by have :=HN.o.new k hk;omega)),fG.at_ ((eh.o.bx.keep dG.o).keep ib.o) (fun hm=>by have :=HN.o.new _ hm;omega)⟩;clear u0 fG Ns aB))
   clear fS;go_roundg (gk-1);case measure=>have :=HK.o;omega
   case rel=>exact⟨k+1,A4,c4,hs++[(⟨some ⟨J.heap.size,0,none⟩,2,[v,-u]⟩:Ls),(⟨some ⟨J.heap.size+1,0,none⟩,2,[-v,u]⟩:Ls)],by have :=HK.o;omega,by rw[an,yk];rfl,by go_num,uP.o,(by rw[bE,HE.o,CU.o,dZ.o];rfl :_=_),jr.o⟩
  ·obtain rfl :k=az.length:=by omega
   clear HK;go_wp2;go_ret;exact⟨A',c',hs,rfl,HN.o.low (by omega),HE.o,eh.o.fr⟩
theorem DH(W:World)(n:Nat)(h1:n<=1099511627776):
  (Instr.makeSlice 22 (.int .i64 0) (.int .i64 (n:Int))).run Tryz.prog W= .ok (.slice (some ⟨W.heap.size,0,none⟩) 0 n) (W.alloc (.cells (madeCells #[.int .i64 0] n) 3)):=by
 obtain⟨i0,hi,zq,pj,J⟩:=info_parts nh;have hr:=run_make (P:=Tryz.prog) W 22 3 i0 (.int .i64 0) Tryz.underlying22 hi zq .i64 .i64 0 n (by omega) (by omega) (by rw[J];omega) (by omega);simp only[Int.toNat_natCast]at hr⊢;rw[pj,j9]at hr;exact hr
theorem Sc(W:World)(n:Nat)(h:n<=maxLen):Ints (W.alloc (.cells (madeCells #[.int .i64 0] n) 3)) (some ⟨W.heap.size,0,none⟩) n []:=by have :=(Cg W n h).qg 0;simpa using this
theorem tI(w:World)(H:Hd)(C:Pc)(h:eZ w H C)(hv:Valid C)(b:Int)(hb:0<=b/\b<=262144):
  Calls Tryz.prog 133 #[bY H C, .int .i64 b] w fun e w'=>e= .returned (.int .i64 0)/\Fr [] w w':=by
 have J:=ae (Cx.start w H C);have KC:aj (Calls Tryz.prog 22 #[bY H C] (w.alloc (.cells (fv H C) 27)) fun e w'=>e= .returned (.int .i64 0)/\Fr [] (w.alloc (.cells (fv H C) 27)) w'):=(nt _ H C (h.keep J.o.fr)).mono fun e w' ⟨h1,h2⟩=>by
  rcases h1 with⟨h3,_⟩ |⟨_,h3⟩
  ·exact⟨h3,h2⟩
  ·exact absurd hv h3
 have d0:decide (b<0)=false:=qaj (by omega);have d1:decide (262144<b)=false:=qaj (by omega);clear h hv;obtain⟨mx,ins,az,outs,aI,aH,au,bD⟩:=C;obtain⟨iA,iC,lA,lC,oA,oC,bA,bC,vA,vC,gA,gC,nA,nC⟩:=H;simp only[bY,fv]at *;obtain⟨c0,c1,c2,c3,c4,c5,c6,c7⟩:=J.o.cells;go_enter Tryz.func133,Tryz.ntmps133;go_wp2_with fail;refine KC.o.mono ?_;rintro e w1 ⟨rfl,di⟩;have HF:=ae (J.o.fr.ak di);clear di;go_wp2;go_ret;exact⟨rfl,HF.o⟩
theorem Gu{α β:Type}[Inhabited α](f:α->β){l:List α}{k:Nat}(h:k<l.length):(l.take (k+1)).map f=(l.take k).map f++[f l[k]!]:=by rw[List.take_add_one,af h,eD,bE];simp only[aa,af h,aJ,dJ,fQ]
theorem sd(w:World)(b:Int)(hb:0<=b/\b<=262144)(A:Option Addr)(c:Nat)(l:List Int)(h:Rd w A l)(hr:∀x∈l,0<=x/\x<=4097)(hl:l.length<=1048576):
  Calls Tryz.prog 104 #[.int .i64 b, .slice A l.length c] w fun e w'=>∃A' c',e= .returned (.slice A' l.length c')/\Ints w' A' c' (l.map (bV b))/\(∀k,k∈ao A'->w.heap.size<=k)/\Fr [] w w':=by
 have KA:=ae (CO w b hb);have KL:=ae (fun W x (hx:0<=x/\x<=4097)=>pf W b x (by omega) (by omega));have HH:=ae h;have HR:=ae hr;have tf:aj (Ra l):=(fR (p:=eJ)).2 fun x hx=>by have :=hr x hx;exact⟨by omega,by omega⟩
 have HM:=ae (Sc w l.length (by unfold maxLen;omega));have SV:=DH w l.length (by omega);have Jq:aj (Fr [] w (w.alloc (.cells (madeCells #[.int .i64 0] l.length) 3))):=aR _ _;obtain⟨w1,eo⟩:∃W,w.alloc (.cells (madeCells #[.int .i64 0] l.length) 3)=W:=⟨_,rfl⟩
 rw[eo]at HM Jq SV;clear h hr;go_enter Tryz.func104,Tryz.ntmps104;go_wp2_with fail;refine KA.o.mono ?_;rintro e w0 ⟨rfl,rfl⟩;go_wp2_with fail;clear KA SV eo;go_loopg [6,16] l.length (fun g x6 Ve wr=>∃(k:Nat)(A':Option Addr)(c':Nat)(J:List Int),k+g=l.length/\x6= .slice A' J.length c'/\Ve= .int .i64 k/\aj (Ints wr A' c' J)/\aj (J=(l.take k).map (bV b))/\aj (∀j,j∈ao A'->w.heap.size<=j)/\aj (Fr [] w wr));case atStart=>exact⟨0,_,_,[],by omega,rfl,rfl,HM.o,by show _=_;simp,fun j hj=>by simp[ao]at hj;omega,Jq.o⟩
 case round=>
  obtain⟨k,A',c',J,hk,rfl,rfl,HI,HY,HN,HF⟩:=hrel;have HK:=ae hk;have iS:k<=l.length:=by omega
  have aT:J.length<=k:=by rw[HY.o,aG,bz];omega
  clear hk;by_cases bt:k<l.length
  ·obtain⟨ab,o,x,hA,he,cx,gU,jn⟩:=(HH.o.keep HF.o).one tf.o bt;subst hA;have pL:=ae (Gu (bV b) bt);rw[he.o]at pL;have rN:=HR.o x (by rw[<-he.o];exact bk bt);have ad:=ae (KL.o wr x rN);have aM:min x 4097=x:=by omega
   obtain⟨t,ht⟩:∃t,bV b x=t:=⟨_,rfl⟩
   rw[ht]at ad pL;clear ht;go_wp2_with fail;refine ad.o.mono ?_;rintro e w3 ⟨rfl,rfl⟩;obtain⟨wb,fS⟩:∃W,wr.alloc (.cells #[.int .i64 t] 3)=W:=⟨_,rfl⟩
   have ib:aj (Fr [] wr wb):=fS▸aR _ _;have sr:wb.cell? ⟨wr.heap.size,0,none⟩=some (.int .i64 t):=by rw[<-fS];exact(At.new wr 3 #[.int .i64 t]).cell 0
   go_wp2_with (at_builtin;(refine cL _ rfl _ _ rfl A' c' J J.length rfl rfl (HI.o.fr ib.o (fun _ _ hm=>by cases hm)) ⟨wr.heap.size,0,none⟩ 1 t rfl sr (by omega) ?_;intro g cap w4 iP xK hg aK;have N9:=ae iP;have ic:aj (Fr [] w w4):=(HF.o.ak ib.o).trans xK (fun x hx=> .inr (HN.o x hx));have Qt:aj (w.heap.size<=g):=(by rcases hg with h1 |h1;(exact HN.o g h1);(have :=HF.o.size;have :=ib.o.size;omega):w.heap.size<=g);clear sr iP xK hg aK))
   clear fS;go_roundg (gk-1);case measure=>have :=HK.o;omega
   case rel=>exact⟨k+1,some ⟨g,0,none⟩,cap,J++[t],by have :=HK.o;omega,by simp,by go_num,N9.o,(by rw[pL.o,HY.o]:J++[t]=(l.take (k+1)).map (bV b)),fun j hj=>by simp[ao]at hj;subst hj;exact Qt.o,ic.o⟩
  ·obtain rfl :k=l.length:=by omega
   have hy:J=l.map (bV b):=by rw[HY.o,cN]
   have aB:J.length=l.length:=by rw[hy,aG]
   have ar:=ae hy;rw[aB];clear HK hy HY;go_wp2;go_ret;exact⟨A',c',rfl,by rw[<-ar.o];exact HI.o,HN.o,HF.o⟩
namespace Bools
variable {w w':World} {A:Option Addr} {c:Nat} {bs:List Bool}
theorem NQ{g:Nat}(h:Bools w (some ⟨g,0,none⟩) c bs){i:Nat}(hi:i<bs.length):w.cell? ⟨g,i,none⟩=some (.bool (bs[i]!)):=by rw[World.ownsRow.cellAt h i (by omega)];simp only[aZ,af hi,dA,aa,aJ]
theorem yv{g:Nat}(h:Bools w (some ⟨g,0,none⟩) c bs)(i:Nat):w.frozen? ⟨g,i,none⟩=false:=World.ownsRow.frozenAt h i
theorem akw{g:Nat}(h:Bools w (some ⟨g,0,none⟩) c bs)(i:Nat)(x:Bool):Bools (w.setCell ⟨g,i,none⟩ (.bool x)) (some ⟨g,0,none⟩) c (bs.set i x):=by have :=(World.ownsRow.stored h i (.bool x)).1;unfold Bools;rw[aw,List.map_set];exact this
theorem frB{S:List Nat}(h:Bools w A c bs)(J:Fr S w w')(hd:∀k,k∈ao A->k∉S):Bools w' A c bs:=J.own h (fun k hk=>hd k ((k7 k).1 hk))
end Bools
def AN(xs:List Int)(bs:List Bool):List Bool:=xs.foldl (fun b x=>b.set (x/2).toNat true) bs
theorem XO(xs:List Int):∀bs,(AN xs bs).length=bs.length:=by
 induction xs with
 |nil=>intro bs;rfl
 |cons x r J=>intro bs;show(AN r _).length=_;rw[J,aw]
theorem EM(xs J:List Int)(bs:List Bool):AN (xs++J) bs=AN J (AN xs bs):=by unfold AN;rw[List.foldl_append]
theorem zT{xs:List Int}{k:Nat}(h:k<xs.length)(bs:List Bool):AN (xs.take (k+1)) bs=(AN (xs.take k) bs).set (xs[k]! /2).toNat true:=by rw[List.take_add_one,af h,eD,EM];simp only[aa,af h,aJ];rfl
def CK(C:Pc):List Bool:=AN (cm C) (List.replicate (C.mx+1).toNat false)
theorem lU(C:Pc):(CK C).length=(C.mx+1).toNat:=by unfold CK;rw[XO,a8]
structure Dg(w wr:World)(g n:Nat)(bs:List Bool):Prop where
 row:Bools wr (some ⟨g,0,none⟩) n bs
 len:bs.length=n
 new:w.heap.size<g
namespace Dg
variable {w wr wx:World} {g n:Nat} {bs:List Bool}
theorem keep(h:Dg w wr g n bs)(J:Fr [] wr wx):Dg w wx g n bs:=⟨h.row.frB J (fun _ _ hm=>by cases hm),h.len,h.new⟩
theorem dL(h:Dg w wr g n bs)(i:Nat):Dg w (wr.setCell ⟨g,i,none⟩ (.bool true)) g n (bs.set i true):=⟨h.row.akw i true,by rw[aw];exact h.len,h.new⟩
end Dg
theorem Cx.put{w wr:World}{H:Hd}{C:Pc}(h:Cx w wr H C){g:Nat}(J:w.heap.size<g)(i:Nat)(v:Value):Cx w (wr.setCell ⟨g,i,none⟩ v) H C:=
 ⟨h.fr.setCell (.inr (by show w.heap.size<=g;omega)) v,h.bx.ie (by show w.heap.size≠g;omega) v⟩
theorem yN(w:World)(H:Hd)(C:Pc)(h:eZ w H C)(hv:Valid C):
  Calls Tryz.prog 134 #[bY H C] w fun e w'=>∃g,e= .returned (.slice (some ⟨g,0,none⟩) (CK C).length (CK C).length)/\Bools w' (some ⟨g,0,none⟩) (CK C).length (CK C)/\w.heap.size<=g/\Fr [] w w':=by
 have HX:=ae (Cx.start w H C);have uY:=hv.m0;have sl:=hv.m1;obtain⟨n,hn⟩:∃n:Nat,C.mx+1=n:=⟨(C.mx+1).toNat,by omega⟩
 have bb:=ae (eE hv);have Jg:=lU C;rw[hn,Int.toNat_natCast]at Jg;rw[Jg];have ab:aj (CK C=AN (C.au.map (fun x=>x.a)) (AN (C.az.map (fun x=>x.a)) (AN C.ins (List.replicate n false)))):=by show _=_;unfold CK cm;rw[hn,Int.toNat_natCast,EM,EM]
 have VG:=ae (fun x (hx:x∈C.ins)=>eE hv x (by simp[cm,hx]));have AS:=ae (fun x (hx:x∈C.az.map (fun x=>x.a))=>eE hv x (by unfold cm;simp only[ah];exact .inl (.inr hx)));have a1:=ae (fun x (hx:x∈C.au.map (fun x=>x.a))=>eE hv x (by unfold cm;simp only[ah];exact .inr hx));have eo:IntKind.i64.wrap (C.mx+1)=(n:Int):=by rw[hn];exact IntWalk.i64_in _ (by omega)
 have KV:=ae (fun W l (h0:0<=l) (h1:l<=9223372036854775807)=>kO W l h0 h1);have HH:=ae h;have ba:=ae h.ir;have rY:=ae h.lr;have Jr:=ae h.gr;have rK:=ae h.gL;have sS:=h.iL;have nV:=h.lL;have wX:=h.gL;clear h hv Jg;obtain⟨mx,ins,az,outs,aI,aH,au,bD⟩:=C;obtain⟨iA,iC,lA,lC,oA,oC,bA,bC,vA,vC,gA,gC,nA,nC⟩:=H;simp only[bY,fv]at *;have bg:mx+1=(n:Int):=hn;have SV:=fun W=>nF W (n:Int) (by omega) (by omega);simp only[Int.toNat_natCast]at SV;obtain⟨wq,aT⟩:∃W,w.alloc (.cells #[.int .i64 mx, .slice iA ins.length iC, .slice lA az.length lC, .slice oA outs.length oC, .slice bA aI.length bC, .slice vA aH.length vC, .slice gA au.length gC, .slice nA bD.length nC] 27)=W:=⟨_,rfl⟩
 have ad:aj (Cx w wq ⟨iA,iC,lA,lC,oA,oC,bA,bC,vA,vC,gA,gC,nA,nC⟩ ⟨mx,ins,az,outs,aI,aH,au,bD⟩):=aT▸HX.o;obtain⟨c0,c1,c2,c3,c4,c5,c6,c7⟩:=ad.o.cells;try simp only at c0 c1 c2 c3 c4 c5 c6 c7
 obtain⟨w1,hw⟩:∃W,wq.alloc (.cells (madeCells #[.bool false] n) 4)=W:=⟨_,rfl⟩
 have dZ:aj (Fr [] wq w1):=hw▸aR _ _;have ia:=ae (ad.o.keep dZ.o);have FB:aj (Dg w w1 wq.heap.size n (List.replicate n false)):=⟨hw▸sN wq n (by unfold maxLen;omega),by simp,ad.o.bx.lt⟩
 obtain⟨g,hg⟩:∃g,wq.heap.size=g:=⟨_,rfl⟩
 rw[hg]at FB;obtain⟨d0,d1,d2,d3,d4,d5,d6,d7⟩:=ia.o.cells;try simp only at d0 d1 d2 d3 d4 d5 d6 d7
 have ar:=SV wq;rw[hg,hw]at ar;clear HX SV hn;go_enter Tryz.func134,Tryz.ntmps134;go_wp2_with fail;clear ar hw aT hg eo c0 c1 c2 c3 c4 c5 c6 c7 d0 d1 d2 d3 d4 d5 d6 d7;go_loopg [17] ins.length (fun gk MA wr=>∃k:Nat,k+gk=ins.length/\MA= .int .i64 k/\aj (Cx w wr ⟨iA,iC,lA,lC,oA,oC,bA,bC,vA,vC,gA,gC,nA,nC⟩ ⟨mx,ins,az,outs,aI,aH,au,bD⟩)/\aj (Dg w wr g n (AN (ins.take k) (List.replicate n false))));case atStart=>exact⟨0,by omega,rfl,ia.o,FB.o⟩
 case round=>
  obtain⟨k,hk,rfl,eh,HD⟩:=hrel;have HK:=ae hk;have iS:k<=ins.length:=by omega
  clear hk ia FB;by_cases bt:k<ins.length
  ·obtain⟨b,o,x,hA,he,cx,gU,jn⟩:=(HH.o.keep eh.o.fr).i.one ba.o bt;try simp only at hA he
   subst hA;have pL:=ae (zT bt (List.replicate n false));rw[he.o]at pL;have rN:=VG.o x (by rw[<-he.o];exact bk bt);try simp only at rN
   have Fw:=eh;have J:=HD;obtain⟨v,oy⟩:∃v:Nat,x/2=(v:Int):=⟨(x/2).toNat,by omega⟩
   have GQ:v<n:=by omega
   have aB:(v:Int)<(n:Int):=by omega
   rw[oy,Int.toNat_natCast]at pL;have N6:=KV.o wr x (by omega) (by omega);rw[oy]at N6;have N6:=ae N6;have cb:=J.o.row.NQ (i:=v) (by rw[J.o.len];exact GQ);have cf:=J.o.row.yv v;have jr:=ae (Fw.o.put J.o.new v (.bool true));have YP:=ae (J.o.dL v);have AQ:=ae J.o.len;clear oy;go_wp2_with fail;refine N6.o.mono ?_;rintro e w3 ⟨rfl,rfl⟩;go_wp2;go_roundg (gk-1);case measure=>have :=HK.o;omega
   case rel=>exact⟨k+1,by have :=HK.o;omega,by go_num,jr.o,by rw[pL.o];exact YP.o⟩
  ·obtain rfl :k=ins.length:=by omega
   obtain⟨w2,kE⟩:∃x,x=wr:=⟨_,rfl⟩
   rw[cN]at HD;obtain⟨B1,aK⟩:∃B,AN ins (List.replicate n false)=B:=⟨_,rfl⟩
   rw[aK]at HD ab;obtain⟨d0,d1,d2,d3,d4,d5,d6,d7⟩:=eh.o.cells;try simp only at d0 d1 d2 d3 d4 d5 d6 d7
   clear HK aK kE;go_wp2_with fail;clear d0 d1 d2 d3 d4 d5 d6 d7;go_loopg [29] az.length (fun gk xi wr=>∃k:Nat,k+gk=az.length/\xi= .int .i64 k/\aj (Cx w wr ⟨iA,iC,lA,lC,oA,oC,bA,bC,vA,vC,gA,gC,nA,nC⟩ ⟨mx,ins,az,outs,aI,aH,au,bD⟩)/\aj (Dg w wr g n (AN ((az.map (fun x=>x.a)).take k) B1)));case atStart=>exact⟨0,by omega,rfl,eh.o,HD.o⟩
   case round=>
    obtain⟨k,hk,rfl,eh,HD⟩:=hrel;have HK:=ae hk;have iS:k<=az.length:=(by omega)
    clear hk;by_cases bt:k<az.length
    ·obtain⟨b,o,x,y,z,hA,he,cx,cy,cz,hx,hy,hz⟩:=(HH.o.keep eh.o.fr).l.one rY.o bt;try simp only at hA he
     subst hA;have yl:k<(az.map (fun x:T3=>x.a)).length:=by rw[aG];exact bt
     have Fq:(az.map (fun x:T3=>x.a))[k]! =x:=by rw[aa,aZ,af bt];have :=he.o;rw[aa,af bt]at this;simp only[aJ]at this;simp[this]
     have pL:=ae (zT yl B1);rw[Fq]at pL;have rN:=AS.o x (by rw[<-Fq];exact bk yl);try simp only at rN
     obtain⟨wx,qH⟩:∃W,wr.alloc (.cells #[.int .i64 x, .int .i64 y, .int .i64 z] 62)=W:=⟨_,rfl⟩
     have xF:At wx wr.heap.size 62 #[.int .i64 x, .int .i64 y, .int .i64 z]:=qH▸At.new _ _ _;have oM:aj (Fr [] wr wx):=qH▸aR _ _;have f0:=xF.cell 0;simp at f0;have Fw:=ae (eh.o.keep oM.o);have J:=ae (HD.o.keep oM.o);clear Fq yl xF;obtain⟨v,oy⟩:∃v:Nat,x/2=(v:Int):=⟨(x/2).toNat,by omega⟩
     have GQ:v<n:=(by omega)
     have aB:(v:Int)<(n:Int):=(by omega)
     rw[oy,Int.toNat_natCast]at pL;have N6:=KV.o wx x (by omega) (by omega);rw[oy]at N6;have N6:=ae N6;have cb:=J.o.row.NQ (i:=v) (by rw[J.o.len];exact GQ);have cf:=J.o.row.yv v;have jr:=ae (Fw.o.put J.o.new v (.bool true));have YP:=ae (J.o.dL v);have AQ:=ae J.o.len;clear oy;go_wp2_with fail;refine N6.o.mono ?_;rintro e w3 ⟨rfl,rfl⟩;go_wp2;go_roundg (gk-1);case measure=>have :=HK.o;omega
     case rel=>exact⟨k+1,by have :=HK.o;omega,by go_num,jr.o,by rw[pL.o];exact YP.o⟩
    ·obtain rfl :k=az.length:=by omega
     have HD:aj (Dg w wr g n (AN (az.map (fun x=>x.a)) B1)):=by have :=HD.o;rw[dv (by rw[aG];exact aq _)]at this;exact this
     clear HK;obtain⟨B2,aM⟩:∃B,AN (az.map (fun x=>x.a)) B1=B:=⟨_,rfl⟩
     try simp only at ab
     rw[aM]at HD ab;obtain⟨d0,d1,d2,d3,d4,d5,d6,d7⟩:=eh.o.cells;try simp only at d0 d1 d2 d3 d4 d5 d6 d7
     clear aM;go_wp2_with fail;clear d0 d1 d2 d3 d4 d5 d6 d7;go_loopg [42] au.length (fun gk xi wr=>∃k:Nat,k+gk=au.length/\xi= .int .i64 k/\aj (Cx w wr ⟨iA,iC,lA,lC,oA,oC,bA,bC,vA,vC,gA,gC,nA,nC⟩ ⟨mx,ins,az,outs,aI,aH,au,bD⟩)/\aj (Dg w wr g n (AN ((au.map (fun x=>x.a)).take k) B2)));case atStart=>exact⟨0,by omega,rfl,eh.o,HD.o⟩
     case round=>
      obtain⟨k,hk,rfl,eh,HD⟩:=hrel;have HK:=ae hk;have iS:k<=au.length:=(by omega)
      clear hk;by_cases bt:k<au.length
      ·obtain⟨b,o,x,y,z,hA,he,cx,cy,cz,hx,hy,hz⟩:=(HH.o.keep eh.o.fr).g.one Jr.o bt;try simp only at hA he
       subst hA;have yl:k<(au.map (fun x:T3=>x.a)).length:=by rw[aG];exact bt
       have Fq:(au.map (fun x:T3=>x.a))[k]! =x:=by rw[aa,aZ,af bt];have :=he.o;rw[aa,af bt]at this;simp only[aJ]at this;simp[this]
       have pL:=ae (zT yl B2);rw[Fq]at pL;have rN:=a1.o x (by rw[<-Fq];exact bk yl);try simp only at rN
       obtain⟨wx,qH⟩:∃W,wr.alloc (.cells #[.int .i64 x, .int .i64 y, .int .i64 z] 69)=W:=⟨_,rfl⟩
       have xF:At wx wr.heap.size 69 #[.int .i64 x, .int .i64 y, .int .i64 z]:=qH▸At.new _ _ _;have oM:aj (Fr [] wr wx):=qH▸aR _ _;have f0:=xF.cell 0;simp at f0;have Fw:=ae (eh.o.keep oM.o);have J:=ae (HD.o.keep oM.o);clear Fq yl xF;obtain⟨v,oy⟩:∃v:Nat,x/2=(v:Int):=⟨(x/2).toNat,by omega⟩
       have GQ:v<n:=(by omega)
       have aB:(v:Int)<(n:Int):=(by omega)
       rw[oy,Int.toNat_natCast]at pL;have N6:=KV.o wx x (by omega) (by omega);rw[oy]at N6;have N6:=ae N6;have cb:=J.o.row.NQ (i:=v) (by rw[J.o.len];exact GQ);have cf:=J.o.row.yv v;have jr:=ae (Fw.o.put J.o.new v (.bool true));have YP:=ae (J.o.dL v);have AQ:=ae J.o.len;clear oy;go_wp2_with fail;refine N6.o.mono ?_;rintro e w3 ⟨rfl,rfl⟩;go_wp2;go_roundg (gk-1);case measure=>have :=HK.o;omega
       case rel=>exact⟨k+1,by have :=HK.o;omega,by go_num,jr.o,by rw[pL.o];exact YP.o⟩
      ·obtain rfl :k=au.length:=by omega
       have HD:aj (Dg w wr g n (AN (au.map (fun x=>x.a)) B2)):=by have :=HD.o;rw[dv (by rw[aG];exact aq _)]at this;exact this
       clear HK;go_wp2;go_ret;exact⟨g,rfl,by rw[ab.o];exact HD.o.row,by have :=HD.o.new;omega,eh.o.fr⟩
theorem gv(wb:World){ops:Array Oper}{rest:List Oper}{o:Oper}{a:Act}{Q:Exit->Act->World->Prop}(rA:o.guard=none)(s x:Operand)
  (ho:o.op= .call { callee:= .builtin .append,args:=#[s,x],argTypes:=#[28,28] }) {w3:World} {B:Nat} (A:Option Addr) (c:Nat) (hs:List Ls) (HN:NwLs w3 B A c hs) (fS:Fr [] w3 wb) (hB:B<=wb.heap.size) (n:Nat) (ab:a.eval s= .slice A n c) (hn:n=hs.length)
  (J:Addr) (m d:Nat) (ms:List Ls) (hx:a.eval x= .slice (some J) m d) (hm:m=ms.length) (hr:∀j:Nat,j<ms.length->wb.cell? (J.add j)=some (ms[j]!).val)
  (G8:∀h∈ms,Ints wb h.A h.c h.l/\Ra h.l/\h.l.length<=1048576/\∀k,k∈ao h.A->B<=k) (hlen:hs.length+ms.length<=4194304)
  (h:∀A' cap w',NwLs w' B A' cap (hs++ms)->Fr (ao A) wb w'->wpList Tryz.prog ops Q rest (a.put o.dst (.slice A' (n+m) cap)) w'):
  wpList Tryz.prog ops Q (o::rest) a wb:=
 eM wb rA s x ho A c hs n ab hn (HN.keep fS).row J m d ms hx hm hr hlen fun A' cap w' h1 h2 h3 h4=>h A' cap w' (HN.more fS G8 h2 h1 h3 hB) h2
theorem Cx.push{w wb w':World}{H:Hd}{C:Pc}{A:Option Addr}(h:Cx w wb H C)(J:Fr (ao A) wb w')(hn:∀k∈ao A,w.heap.size<k):Cx w w' H C:=
 ⟨h.fr.trans J (fun k hk=> .inr (Nat.le_of_lt (hn k hk))),J.at_ h.bx (fun hm=>by have :=hn _ hm;omega)⟩
theorem NwLs.lt{w:World}{B:Nat}{A:Option Addr}{c:Nat}{hs:List Ls}(k:NwLs w B A c hs){n:Nat}(h:n<B):∀j∈ao A,n<j:=fun j J=>aS h (k.new j J)
theorem NwLs.io{w:World}{B:Nat}{A:Option Addr}{c:Nat}{hs:List Ls}(k:NwLs w B A c hs){L:List (List Int)}(h:hs.map (·.l)=L):hs.length=L.length:=by rw[<-h,aG]
theorem FJ{C:Pc}(J:Valid C):C.au.length<=2048:=by
 have key:∀j:Nat,j<C.au.length->2*((j:Int)+1)<=(C.au[j]!).a:=by
  intro j;induction j with
  |zero=>
   intro h;have :=eE J (C.au[0]!).a (by unfold cm;simp only[ah,aN];exact .inr ⟨_,bk h,rfl⟩);omega
  |succ j ih=>
   intro h;have h1:=ih (by omega);have h2:=J.au (j+1) h;simp only[vQ,V8,dt,ax]at h2;rw[qah (by omega)]at h2;simp only[qam]at h2;have h3:=eE J (C.au[j+1]!).a (by unfold cm;simp only[ah,aN];exact .inr ⟨_,bk h,rfl⟩);have h4:=eE J (C.au[j]!).a (by unfold cm;simp only[ah,aN];exact .inr ⟨_,bk (by omega),rfl⟩);omega
 by_cases h:C.au.length=0
 ·omega
 ·have h1:=key (C.au.length-1) (by omega);have h2:=eE J (C.au[C.au.length-1]!).a (by unfold cm;simp only[ah,aN];exact .inr ⟨_,bk (by omega),rfl⟩);have :=J.m1;omega
theorem BR{C:Pc}(h:Valid C)(j:Nat)(hj:j<C.au.length):(0<=(C.au[j]!).a/\(C.au[j]!).a<=2*C.mx+1)/\(0<=(C.au[j]!).b/\(C.au[j]!).b<=2*C.mx+1)/\(0<=(C.au[j]!).c/\(C.au[j]!).c<=2*C.mx+1):=by have J:=h.au j hj;simp only[vQ,ax]at J;have h3:=eE h (C.au[j]!).a (by unfold cm;simp only[ah,aN];exact .inr ⟨_,bk hj,rfl⟩);exact⟨by omega,fI h J.1.2,fI h J.2⟩
theorem RQ{x y z:Int}(h:eJ x)(J:eJ y)(h3:eJ z):Ra [x,y,z]:=fun j hj=>by
 have :j=0\/j=1\/j=2:=by simp at hj;omega
 rcases this with rfl |rfl |rfl
 ·exact h
 ·exact J
 ·exact h3
def yI(b:Int)(bs:List Bool)(i:Nat):List (List Int):=if bs[i]! =true then[]else[[-(b+i+1)]]
def Dj(b:Int)(bs:List Bool)(k:Nat):List (List Int):=(List.range k).flatMap (yI b bs)
theorem BV(b:Int)(bs:List Bool)(k:Nat):Dj b bs (k+1)=Dj b bs k++yI b bs k:=by unfold Dj;rw[ju,List.flatMap_append];simp
theorem FN(b:Int)(bs:List Bool)(k:Nat):(Dj b bs k).length<=k:=by
 induction k with
 |zero=>simp[Dj]
 |succ k J=>
  rw[BV,an];have :(yI b bs k).length<=1:=by unfold yI;split<;>simp
  omega
def zH(b:Int)(x:T3):List (List Int):=[[-(bV b x.a),bV b x.b],[-(bV b x.a),bV b x.c],[bV b x.a,-(bV b x.b),-(bV b x.c)]]
def zG(b:Int)(xs:List T3)(k:Nat):List (List Int):=(xs.take k).flatMap (zH b)
theorem CB(b:Int)(xs:List T3)(k:Nat)(h:k<xs.length):zG b xs (k+1)=zG b xs k++zH b xs[k]! :=by unfold zG;rw[kt _ _ h,List.flatMap_append];simp
theorem TM(b:Int)(xs:List T3)(k:Nat)(h:k<=xs.length):(zG b xs k).length=3*k:=by
 induction k with
 |zero=>simp[zG]
 |succ k J=>
  rw[CB b xs k (by omega),an,J (by omega)];simp[zH];omega
def j6(C:Pc)(b:Int):List (List Int):=Dj b (CK C) (CK C).length++zG b C.au C.au.length
theorem Dr(w:World)(H:Hd)(C:Pc)(h:eZ w H C)(hv:Valid C)(b:Int)(hb:0<=b/\b<=262144):
  Calls Tryz.prog 101 #[bY H C, .int .i64 b] w fun e w'=>∃A c hs,e= .returned (.tuple #[.slice A hs.length c, .int .i64 0])/\NwLs w' w.heap.size A c hs/\hs.map (·.l)=j6 C b/\Fr [] w w':=by
 have HX:=ae (Cx.start w H C);have KR:=ae (tI _ H C (h.keep HX.o.fr) hv b hb);have KD:=ae (fun W (hW:Fr [] w W)=>yN W H C (h.keep hW) hv);have KO:=ae (fun W v (hv:0<=v/\v<=1000000)=>Cd W b v (by omega) hv);have KT:=ae (fun W x (hx:0<=x/\x<=4097)=>pf W b x (by omega) (by omega));have xr:=ae (fun x (hx:0<=x/\x<=4097)=>mz (b:=b) (l:=x) (by omega) hx);have pL:=ae (fun j hj=>BR hv j hj);have Jg:=lU C;have uY:=hv.m0;have tn:=hv.m1;have wX:=FJ hv;have HH:=ae h;have Jr:=ae h.gr;have b0:=h.gL;obtain⟨bs,aT⟩:∃bs,CK C=bs:=⟨_,rfl⟩
 have tA:aj (j6 C b=Dj b bs bs.length++zG b C.au C.au.length):=(by show _=_;unfold j6;rw[aT])
 rw[aT]at KD Jg;have b2:bs.length<=2049:=by omega
 clear h hv aT Jg;obtain⟨mx,ins,az,outs,aI,aH,au,bD⟩:=C;obtain⟨iA,iC,lA,lC,oA,oC,bA,bC,vA,vC,gA,gC,nA,nC⟩:=H;simp only[bY,fv]at *;obtain⟨c0,c1,c2,c3,c4,c5,c6,c7⟩:=HX.o.cells;try simp only at c0 c1 c2 c3 c4 c5 c6 c7
 go_enter Tryz.func101,Tryz.ntmps101;go_wp2_with fail;refine KR.o.mono ?_;rintro e w1 ⟨rfl,di⟩;have ia:=ae (HX.o.keep di);obtain⟨e0,e1,e2,e3,e4,e5,e6,e7⟩:=ia.o.cells;try simp only at e0 e1 e2 e3 e4 e5 e6 e7
 have bg:=ae (KD.o w1 ia.o.fr);clear di c0 c1 c2 c3 c4 c5 c6 c7 KR KD HX;go_wp2_with fail;refine bg.o.mono ?_;rintro e w2 ⟨g,rfl,bj,bO,cE⟩;have fZ:=ae (ia.o.keep cE);have ba:=ae bj;clear cE bj bO bg e0 e1 e2 e3 e4 e5 e6 e7;go_wp2_with fail;go_loopg [8,26] bs.length (fun gk x8 bS wr=>∃(k:Nat)(A':Option Addr)(c':Nat)(hs:List Ls),k+gk=bs.length/\x8= .slice A' hs.length c'/\bS= .int .i64 k/\aj (NwLs wr (w.heap.size+1) A' c' hs)/\aj (hs.map (·.l)=Dj b bs k)/\aj (Cx w wr ⟨iA,iC,lA,lC,oA,oC,bA,bC,vA,vC,gA,gC,nA,nC⟩ ⟨mx,ins,az,outs,aI,aH,au,bD⟩)/\aj (Bools wr (some ⟨g,0,none⟩) bs.length bs));case atStart=>exact⟨0,none,0,[],by omega,rfl,rfl,NwLs.nil _ _,rfl,fZ.o,ba.o⟩
 case round=>
  obtain⟨k,A',c',hs,hk,rfl,rfl,HN,HE,eh,Ju⟩:=hrel;have HK:=ae hk;have iS:k<=bs.length:=by omega
  have yk:hs.length<=k:=by have :=FN b bs k;rw[<-HE.o,aG]at this;exact this
  clear hk ia fZ ba;by_cases bt:k<bs.length
  ·have cb:=Ju.o.NQ bt;have cf:=Ju.o.yv k;have pL:=ae (BV b bs k);obtain⟨t,ht⟩:∃t,bs[k]! =t:=⟨_,rfl⟩
   rw[ht]at cb;have aK:aj (yI b bs k=if t=true then[]else[[-(b+k+1)]]):=(by show _=_;unfold yI;rw[ht])
   clear ht;cases t with
   |true=>
    have aM:aj (yI b bs k=[]):=aK.o;go_wp2;go_roundg (gk-1);case measure=>have :=HK.o;omega
    case rel=>exact⟨k+1,A',c',hs,by have :=HK.o;omega,rfl,by go_num,HN.o,(by rw[HE.o,pL.o,aM.o,cq]:_=_),eh.o,Ju.o⟩
   |false=>
    obtain⟨v,oy⟩:∃v,b+(k:Int)+1=v:=⟨_,rfl⟩
    have aM:aj (yI b bs k=[[-v]]):=by have :=aK.o;rw[oy]at this;exact this
    have Bd:0<=v/\v<=1000000:=(by omega)
    have eo:IntKind.i64.wrap (-v)= -v:=IntWalk.i64_in _ (by omega);have ar:=KO.o wr (k:Int) (by omega);rw[oy]at ar;have ar:=ae ar;have xo:=ae Bd;clear oy aK;obtain⟨wb,fS⟩:∃W,(wr.alloc (.cells #[.int .i64 (-v)] 3)).alloc (.cells #[.slice (some ⟨wr.heap.size,0,none⟩) 1 1] 22)=W:=⟨_,rfl⟩
    have nv:aj (Ints wb (some ⟨wr.heap.size,0,none⟩) 1 [-v]):=fS▸(gS wr [-v] (by simp[maxLen])).alloc _;have ib:aj (Fr [] wr wb):=fS▸((aR _ _).ak (aR _ _));have nX:wb.cell? ⟨wr.heap.size+1,0,none⟩=some (.slice (some ⟨wr.heap.size,0,none⟩) 1 1):=by have :=(At.new (wr.alloc (.cells #[.int .i64 (-v)] 3)) 22 #[.slice (some ⟨wr.heap.size,0,none⟩) 1 1]).cell 0;rw[fS]at this;simpa using this
    have uS:=ae nX;have qQ:aj (w.heap.size+1<=wr.heap.size):=(eh.o.bx.lt:w.heap.size+1<=wr.heap.size)
    have tw:=ae (eh.o.keep ib.o);have VK:=ae (Ju.o.frB ib.o (fun _ _ hm=>by cases hm));clear nX;go_wp2_with fail;refine ar.o.mono ?_;rintro e w3 ⟨rfl,rfl⟩;go_wp2_with (at_builtin;(refine gv _ rfl _ _ rfl A' c' hs HN.o ib.o (aE qQ.o ib.o.size) hs.length rfl rfl ⟨wr.heap.size+1,0,none⟩ 1 1 [⟨some ⟨wr.heap.size,0,none⟩,1,[-v]⟩] rfl rfl (fun j hj=>by(have :j=0:=by simpa using hj);subst this;rw[dQ];exact uS.o) (fun h hh=>by(have :=ag.1 hh);subst this;exact⟨nv.o,F9 ⟨by have :=xo.o;omega,by have :=xo.o;omega⟩,by simp,fun k hk=>by simp[ao]at hk;subst hk;exact qQ.o⟩) (by simp;omega) ?_;intro A4 c4 w4 uX fG;have uP:=ae uX;have jr:=ae (tw.o.push fG (HN.o.lt (Nat.lt_succ_self _)));have Jv:=ae (VK.o.frB fG (F6 VK.o (HN.o.keep ib.o).row (by decide)));clear uX fG))
    clear fS;go_roundg (gk-1);case measure=>have :=HK.o;omega
    case rel=>exact⟨k+1,A4,c4,hs++[(⟨some ⟨wr.heap.size,0,none⟩,1,[-v]⟩:Ls)],by have :=HK.o;omega,by simp,by go_num,uP.o,(by rw[bE,HE.o,pL.o,aM.o];rfl :_=_),jr.o,Jv.o⟩
  ·obtain rfl :k=bs.length:=by omega
   obtain⟨d0,d1,d2,d3,d4,d5,d6,d7⟩:=eh.o.cells;try simp only at d0 d1 d2 d3 d4 d5 d6 d7
   have ab:aj (hs.length<=2049):=(by show _<=_;omega)
   obtain⟨U,hU⟩:∃U,Dj b bs bs.length=U:=⟨_,rfl⟩
   rw[hU]at HE tA;clear HK hU Ju yk;go_wp2_with fail;clear d0 d1 d2 d3 d4 d5 d6 d7;go_loopg [8,45] au.length (fun gk x8 bT wr=>∃(k:Nat)(A':Option Addr)(c':Nat)(hs:List Ls),k+gk=au.length/\x8= .slice A' hs.length c'/\bT= .int .i64 k/\aj (NwLs wr (w.heap.size+1) A' c' hs)/\aj (hs.map (·.l)=U++zG b au k)/\aj (hs.length<=2049+3*k)/\aj (Cx w wr ⟨iA,iC,lA,lC,oA,oC,bA,bC,vA,vC,gA,gC,nA,nC⟩ ⟨mx,ins,az,outs,aI,aH,au,bD⟩));case atStart=>exact⟨0,A',c',hs,by omega,rfl,rfl,HN.o,(by rw[HE.o];simp[zG]:_=_),ab.o,eh.o⟩
   case round=>
    clear HN HE eh ab;obtain⟨k,A',c',hs,hk,rfl,rfl,HN,HE,ab,eh⟩:=hrel;have HK:=ae hk;have iS:k<=au.length:=(by omega)
    have yk:=ab.o;clear hk;by_cases bt:k<au.length
    ·obtain⟨b1,o,x,y,z,hA,he,cx,cy,cz,hx,hy,hz⟩:=(HH.o.keep eh.o.fr).g.one Jr.o bt;try simp only at hA he
     subst hA;have Fk:=pL.o k bt;try simp only at Fk
     rw[he.o]at Fk;try simp only at Fk
     have CU:=ae (CB b au k bt);obtain⟨J,aB⟩:∃u,bV b x=u:=⟨_,rfl⟩
     obtain⟨tl,Cp⟩:∃u,bV b y=u:=⟨_,rfl⟩
     obtain⟨tr,SC⟩:∃u,bV b z=u:=⟨_,rfl⟩
     have dZ:aj (zH b au[k]! =[[-J,tl],[-J,tr],[J,-tl,-tr]]):=by show _=_;unfold zH;rw[he.o];simp only[aB,Cp,SC]
     have Fp:=xr.o x (by omega);have Cs:=xr.o y (by omega);have bo:=xr.o z (by omega);rw[aB]at Fp;rw[Cp]at Cs;rw[SC]at bo;have KX:=fun W=>KT.o W x (by omega);simp only[aB]at KX;have KX:=ae KX;have KY:=fun W=>KT.o W y (by omega);simp only[Cp]at KY;have KY:=ae KY;have KZ:=fun W=>KT.o W z (by omega);simp only[SC]at KZ;have KZ:=ae KZ;clear aB Cp SC;go_upto_region 15 with fail;obtain⟨wx,qH⟩:∃W,wr.alloc (.cells #[.int .i64 x, .int .i64 y, .int .i64 z] 69)=W:=⟨_,rfl⟩
     have xF:At wx wr.heap.size 69 #[.int .i64 x, .int .i64 y, .int .i64 z]:=qH▸At.new _ _ _;have oM:aj (Fr [] wr wx):=qH▸aR _ _;have f0:=xF.cell 0;have f1:=xF.cell 1;have f2:=xF.cell 2;simp at f0 f1 f2;have g0:=Ext.cell f0;have g1:=Ext.cell f1;have g2:=Ext.cell f2;have kE:IntKind.i64.wrap (-J)= -J:=IntWalk.i64_in _ (by omega);have ow:IntKind.i64.wrap (-tl)= -tl:=IntWalk.i64_in _ (by omega);have vE:IntKind.i64.wrap (-tr)= -tr:=IntWalk.i64_in _ (by omega);rw[qH];clear qH xF cx cy cz f0 f1 f2;refine ap ?_;repeat (go_big_quiet_step (first |with_reducible exact bp (KX.o _) |with_reducible exact bp (KY.o _) |with_reducible exact bp (KZ.o _)))
     refine fq ?_;intro w3 qU;have dG:=ae (oM.o.ak qU.o);clear g0 g1 g2 KX KY KZ qU;obtain⟨y1,iO⟩:∃W,w3.alloc (.cells #[.int .i64 (-J), .int .i64 tl] 3)=W:=⟨_,rfl⟩
     obtain⟨y2,ld⟩:∃W,y1.alloc (.cells #[.int .i64 (-J), .int .i64 tr] 3)=W:=⟨_,rfl⟩
     obtain⟨y3,ad⟩:∃W,y2.alloc (.cells #[.int .i64 J, .int .i64 (-tl), .int .i64 (-tr)] 3)=W:=⟨_,rfl⟩
     obtain⟨wb,fS⟩:∃W,y3.alloc (.cells #[.slice (some ⟨w3.heap.size,0,none⟩) 2 2, .slice (some ⟨y1.heap.size,0,none⟩) 2 2, .slice (some ⟨y2.heap.size,0,none⟩) 3 3] 22)=W:=⟨_,rfl⟩
     have nv:aj (Ints wb (some ⟨w3.heap.size,0,none⟩) 2 [-J,tl]):=fS▸(ad▸(ld▸(iO▸gS w3 [-J,tl] (by simp[maxLen]):Ints y1 _ _ _).alloc _:Ints y2 _ _ _).alloc _:Ints y3 _ _ _).alloc _;have n8:aj (Ints wb (some ⟨y1.heap.size,0,none⟩) 2 [-J,tr]):=fS▸(ad▸(ld▸gS y1 [-J,tr] (by simp[maxLen]):Ints y2 _ _ _).alloc _:Ints y3 _ _ _).alloc _;have bG:aj (Ints wb (some ⟨y2.heap.size,0,none⟩) 3 [J,-tl,-tr]):=fS▸(ad▸gS y2 [J,-tl,-tr] (by simp[maxLen]):Ints y3 _ _ _).alloc _;have a1:Fr [] w3 y1:=iO▸aR _ _;have Vg:Fr [] y1 y2:=ld▸aR _ _;have WC:Fr [] y2 y3:=ad▸aR _ _;have bB:Fr [] y3 wb:=fS▸aR _ _;have ib:=ae (((a1.ak Vg).ak WC).ak bB);have CZ:aj (At wb y3.heap.size 22 #[.slice (some ⟨w3.heap.size,0,none⟩) 2 2, .slice (some ⟨y1.heap.size,0,none⟩) 2 2, .slice (some ⟨y2.heap.size,0,none⟩) 3 3]):=fS▸At.new _ _ _;have qQ:aj (w.heap.size+1<=w3.heap.size):=(aE eh.o.bx.lt dG.o.size:w.heap.size+1<=w3.heap.size)
     have bb:aj (w.heap.size+1<=y1.heap.size):=aE qQ.o a1.size;have bI:aj (w.heap.size+1<=y2.heap.size):=aE bb.o Vg.size;have tw:=ae ((eh.o.keep dG.o).keep ib.o);have Vz:aj (eJ J/\eJ tl/\eJ tr/\eJ (-J)/\eJ (-tl)/\eJ (-tr)):=(by unfold eJ;omega:eJ J/\eJ tl/\eJ tr/\eJ (-J)/\eJ (-tl)/\eJ (-tr))
     have nU:w3.heap.size+1=y1.heap.size:=by rw[<-iO];simp
     have Je:y1.heap.size+1=y2.heap.size:=by rw[<-ld];simp
     have b3:y2.heap.size+1=y3.heap.size:=by rw[<-ad];simp
     clear a1 Vg WC bB Fp Cs bo;go_wp2_with (at_builtin;(refine gv _ rfl _ _ rfl A' c' hs (HN.o.keep dG.o) ib.o (aE qQ.o ib.o.size) hs.length rfl rfl ⟨y3.heap.size,0,none⟩ 3 3 [⟨some ⟨w3.heap.size,0,none⟩,2,[-J,tl]⟩,⟨some ⟨y1.heap.size,0,none⟩,2,[-J,tr]⟩,⟨some ⟨y2.heap.size,0,none⟩,3,[J,-tl,-tr]⟩] rfl rfl (fun j hj=>by(have :j=0\/j=1\/j=2:=by simp at hj;omega);rcases this with rfl |rfl |rfl <;>(rw[dQ,CZ.o.cell];rfl)) (fun h hh=>by(have Ti:=hh;simp only[ay,bi,or_false]at Ti);obtain⟨r1,r2,r3,r4,r5,r6⟩:=Vz.o;rcases Ti with rfl |rfl |rfl;(exact⟨nv.o,V6 r4 r2,by simp,fun k hk=>by simp[ao]at hk;subst hk;exact qQ.o⟩);(exact⟨n8.o,V6 r4 r3,by simp,fun k hk=>by simp[ao]at hk;subst hk;exact bb.o⟩);(exact⟨bG.o,RQ r1 r5 r6,by simp,fun k hk=>by simp[ao]at hk;subst hk;exact bI.o⟩)) (by simp;omega) ?_;intro A4 c4 w4 uX fG;have uP:=ae uX;have jr:=ae (tw.o.push fG (HN.o.lt (Nat.lt_succ_self _)));clear uX fG))
     clear fS;go_roundg (gk-1);case measure=>have :=HK.o;omega
     case rel=>exact⟨k+1,A4,c4,hs++[(⟨some ⟨w3.heap.size,0,none⟩,2,[-J,tl]⟩:Ls),(⟨some ⟨y1.heap.size,0,none⟩,2,[-J,tr]⟩:Ls),(⟨some ⟨y2.heap.size,0,none⟩,3,[J,-tl,-tr]⟩:Ls)],by have :=HK.o;omega,by simp,by go_num,uP.o,(by rw[bE,HE.o,CU.o,dZ.o,dB];rfl :_=_),(by have h9:hs.length<=2049+3*k:=ab.o;show _<=_;rw[an];show hs.length+3<=2049+3*(k+1);omega),jr.o⟩
    ·obtain rfl :k=au.length:=by omega
     clear HK;go_wp2;go_ret2;exact⟨A',c',hs,rfl,HN.o.low (by omega),by rw[HE.o,tA.o],eh.o.fr⟩
theorem Oi{C:Pc}(J:Valid C):∀x∈C.aH,0<=x/\x<=4097:=by intro x hx;have h:=J.v;simp only[nR,ax,cR]at h;have :=fI J (h.1 x hx);have :=J.m1;omega
theorem yG{C:Pc}(J:Valid C):C.aH.length<=64:=by have h:=J.v;simp only[nR,ax,qam]at h;omega
def My(l:List Int):Prop:=l.length<=1024/\∀x∈l,0<=x/\x<=4097
def iX(C:Pc)(am:List (List Int))(b:Int):List (List Int):=C.aH.map (fun x=>[bV b x])++am.map (fun l=>l.map (bV b))
theorem zL(C:Pc)(am:List (List Int))(b:Int):(iX C am b).length=C.aH.length+am.length:=by simp[iX]
theorem vy{α β:Type}[Inhabited α](f:α->β){l:List α}{k:Nat}(h:k<l.length):(l.take (k+1)).map f=(l.take k).map f++[f l[k]!]:=Gu f h
theorem Ds(w:World)(H:Hd)(C:Pc)(h:eZ w H C)(hv:Valid C)(A:Option Addr)(c:Nat)(am:List Ls)(hr:N4 w A am)(hf:∀x∈am,My x.l)(ha:am.length<=64)(b:Int)(hb:0<=b/\b<=262144):
  Calls Tryz.prog 102 #[bY H C, .slice A am.length c, .int .i64 b] w fun e w'=>∃A c hs,e= .returned (.tuple #[.slice A hs.length c, .int .i64 0])/\NwLs w' w.heap.size A c hs/\hs.map (·.l)=iX C (am.map (·.l)) b/\Fr [] w w':=by
 have HX:=ae (Cx.start w H C);have KR:=ae (tI _ H C (h.keep HX.o.fr) hv b hb);have KT:=ae (fun W x (hx:0<=x/\x<=4097)=>pf W b x (by omega) (by omega));have KC:=ae (fun W A c l hr hx hl=>sd W b hb A c l hr hx hl);have xr:=ae (fun x (hx:0<=x/\x<=4097)=>mz (b:=b) (l:=x) (by omega) hx);have pL:=ae (Oi hv);have sS:=yG hv;have HH:=ae h;have xo:=ae h.vr;have HR:=ae hr;have YK:=ae hf;have Ff:aj (iX C (am.map (·.l)) b=C.aH.map (fun x=>[bV b x])++(am.map (·.l)).map (fun l=>l.map (bV b))):=(rfl :_=_)
 clear h hv hr hf;obtain⟨mx,ins,az,outs,aI,aH,au,bD⟩:=C;obtain⟨iA,iC,lA,lC,oA,oC,bA,bC,vA,vC,gA,gC,nA,nC⟩:=H;simp only[bY,fv]at *;obtain⟨c0,c1,c2,c3,c4,c5,c6,c7⟩:=HX.o.cells;try simp only at c0 c1 c2 c3 c4 c5 c6 c7
 go_enter Tryz.func102,Tryz.ntmps102;go_wp2_with fail;refine KR.o.mono ?_;rintro e w1 ⟨rfl,di⟩;have ia:=ae (HX.o.keep di);obtain⟨e0,e1,e2,e3,e4,e5,e6,e7⟩:=ia.o.cells;try simp only at e0 e1 e2 e3 e4 e5 e6 e7
 clear di c0 c1 c2 c3 c4 c5 c6 c7 KR HX;go_wp2_with fail;clear e0 e1 e2 e3 e4 e5 e6 e7;go_loopg [10,25] aH.length (fun gk tj aK wr=>∃(k:Nat)(A':Option Addr)(c':Nat)(hs:List Ls),k+gk=aH.length/\tj= .slice A' hs.length c'/\aK= .int .i64 k/\aj (NwLs wr (w.heap.size+1) A' c' hs)/\aj (hs.map (·.l)=(aH.take k).map (fun x=>[bV b x]))/\aj (Cx w wr ⟨iA,iC,lA,lC,oA,oC,bA,bC,vA,vC,gA,gC,nA,nC⟩ ⟨mx,ins,az,outs,aI,aH,au,bD⟩));case atStart=>exact⟨0,none,0,[],by omega,rfl,rfl,NwLs.nil _ _,rfl,ia.o⟩
 case round=>
  obtain⟨k,A',c',hs,hk,rfl,rfl,HN,HE,eh⟩:=hrel;have HK:=ae hk;have iS:k<=aH.length:=by omega
  have yk:hs.length<=k:=by have :=HN.o.io HE.o;rw[aG,bz]at this;omega
  clear hk ia;by_cases bt:k<aH.length
  ·obtain⟨ab,o,x,hA,he,cx,gU,jn⟩:=(HH.o.keep eh.o.fr).v.one xo.o bt;try simp only at hA he
   subst hA;have Qo:=ae (vy (fun x:Int=>[bV b x]) bt);rw[he.o]at Qo;have rN:=pL.o x (by rw[<-he.o];exact bk bt);obtain⟨v,oy⟩:∃v,bV b x=v:=⟨_,rfl⟩
   have Bd:=xr.o x (by omega);have KX:=KT.o wr x (by omega);rw[oy]at KX Bd Qo;have KX:=ae KX;have ar:=ae Bd;clear oy Bd;obtain⟨wb,fS⟩:∃W,(wr.alloc (.cells #[.int .i64 v] 3)).alloc (.cells #[.slice (some ⟨wr.heap.size,0,none⟩) 1 1] 22)=W:=⟨_,rfl⟩
   have nv:aj (Ints wb (some ⟨wr.heap.size,0,none⟩) 1 [v]):=fS▸(gS wr [v] (by simp[maxLen])).alloc _;have ib:aj (Fr [] wr wb):=fS▸((aR _ _).ak (aR _ _));have nX:wb.cell? ⟨wr.heap.size+1,0,none⟩=some (.slice (some ⟨wr.heap.size,0,none⟩) 1 1):=by have :=(At.new (wr.alloc (.cells #[.int .i64 v] 3)) 22 #[.slice (some ⟨wr.heap.size,0,none⟩) 1 1]).cell 0;rw[fS]at this;simpa using this
   have uS:=ae nX;have qQ:aj (w.heap.size+1<=wr.heap.size):=(eh.o.bx.lt:w.heap.size+1<=wr.heap.size)
   have tw:=ae (eh.o.keep ib.o);clear nX;go_wp2_with fail;refine KX.o.mono ?_;rintro e w3 ⟨rfl,rfl⟩;go_wp2_with (at_builtin;(refine gv _ rfl _ _ rfl A' c' hs HN.o ib.o (aE qQ.o ib.o.size) hs.length rfl rfl ⟨wr.heap.size+1,0,none⟩ 1 1 [⟨some ⟨wr.heap.size,0,none⟩,1,[v]⟩] rfl rfl (fun j hj=>by(have :j=0:=by simpa using hj);subst this;rw[dQ];exact uS.o) (fun h hh=>by(have :=ag.1 hh);subst this;exact⟨nv.o,F9 ⟨by have :=ar.o;omega,by have :=ar.o;omega⟩,by simp,fun k hk=>by simp[ao]at hk;subst hk;exact qQ.o⟩) (by simp;omega) ?_;intro A4 c4 w4 uX fG;have uP:=ae uX;have jr:=ae (tw.o.push fG (HN.o.lt (Nat.lt_succ_self _)));clear uX fG))
   clear fS;go_roundg (gk-1);case measure=>have :=HK.o;omega
   case rel=>exact⟨k+1,A4,c4,hs++[(⟨some ⟨wr.heap.size,0,none⟩,1,[v]⟩:Ls)],by have :=HK.o;omega,by simp,by go_num,uP.o,(by rw[bE,HE.o,Qo.o];rfl :_=_),jr.o⟩
  ·obtain rfl :k=aH.length:=by omega
   obtain⟨d0,d1,d2,d3,d4,d5,d6,d7⟩:=eh.o.cells;try simp only at d0 d1 d2 d3 d4 d5 d6 d7
   rw[cN]at HE;obtain⟨U,hU⟩:∃U,aH.map (fun x=>[bV b x])=U:=⟨_,rfl⟩
   have Be:U.length<=64:=by rw[<-hU,aG];exact sS
   rw[hU]at HE;try simp only at Ff
   rw[hU]at Ff;clear HK hU yk;go_wp2_with fail;clear d0 d1 d2 d3 d4 d5 d6 d7;go_loopg [10,39] am.length (fun gk tj aM wr=>∃(k:Nat)(A':Option Addr)(c':Nat)(hs:List Ls),k+gk=am.length/\tj= .slice A' hs.length c'/\aM= .int .i64 k/\aj (NwLs wr (w.heap.size+1) A' c' hs)/\aj (hs.map (·.l)=U++((am.map (·.l)).take k).map (fun l=>l.map (bV b)))/\aj (Cx w wr ⟨iA,iC,lA,lC,oA,oC,bA,bC,vA,vC,gA,gC,nA,nC⟩ ⟨mx,ins,az,outs,aI,aH,au,bD⟩));case atStart=>exact⟨0,A',c',hs,by omega,rfl,rfl,HN.o,(by rw[HE.o];simp :_=_),eh.o⟩
   case round=>
    clear HN HE eh;obtain⟨k,A',c',hs,hk,rfl,rfl,HN,HE,eh⟩:=hrel;have HK:=ae hk;have iS:k<=am.length:=(by omega)
    have yk:hs.length<=64+k:=by have :=HN.o.io HE.o;rw[an,aG,bz,aG]at this;omega
    clear hk;by_cases bt:k<am.length
    ·obtain⟨ab,o,B1,d1,J,hA,he,tq,Ph⟩:=(HR.o.keep eh.o.fr).one bt;subst hA;have lh:=ae Ph;have yl:k<(am.map (·.l)).length:=by rw[aG];exact bt
     have Qo:=ae (vy (fun l:List Int=>l.map (bV b)) yl);have Fq:(am.map (·.l))[k]! =J:=by have :=he.o;rw[aa,af bt]at this;simp only[aJ]at this;rw[aa,aZ,af bt];simp[this]
     rw[Fq]at Qo;have Ps:My J:=by have :=YK.o (am[k]!) (bk bt);rw[he.o]at this;exact this
     have zx:J.length<=1024:=Ps.1;have aB:=ae Ps;have ad:=ae (KC.o wr B1 d1 J Ph.1 Ps.2 (by have :=Ps.1;omega));clear yl Fq Ph Ps;go_wp2_with fail;refine ad.o.mono ?_;rintro e w3 ⟨B2,d2,rfl,oQ,tm,cE⟩;have mi:=ae oQ;have l8:=ae tm;have df:=ae cE;clear oQ tm cE ad;obtain⟨wb,fS⟩:∃W,w3.alloc (.cells #[.slice B2 J.length d2] 22)=W:=⟨_,rfl⟩
     have ib:aj (Fr [] w3 wb):=fS▸aR _ _;have nv:=ae (mi.o.fr ib.o (fun _ _ hm=>by cases hm));have nX:wb.cell? ⟨w3.heap.size,0,none⟩=some (.slice B2 J.length d2):=by have :=(At.new w3 22 #[.slice B2 J.length d2]).cell 0;rw[fS]at this;simpa using this
     have uS:=ae nX;have qQ:aj (w.heap.size+1<=wr.heap.size):=(eh.o.bx.lt:w.heap.size+1<=wr.heap.size)
     have tw:=ae ((eh.o.keep df.o).keep ib.o);have rK:aj ((J.map (bV b)).length=J.length):=(aG .. :_=_)
     have IV:aj (Ra (J.map (bV b))):=(fR (p:=eJ)).2 fun x hx=>by obtain⟨y,hy,rfl⟩:=aN.1 hx;have :=xr.o y (aB.o.2 y hy);exact⟨by omega,by omega⟩
     clear nX;go_wp2_with (at_builtin;(refine gv _ rfl _ _ rfl A' c' hs (HN.o.keep df.o) ib.o (aE qQ.o (aE df.o.size ib.o.size)) hs.length rfl rfl ⟨w3.heap.size,0,none⟩ 1 1 [⟨B2,d2,J.map (bV b)⟩] rfl rfl (fun j hj=>by(have :j=0:=by simpa using hj);subst this;rw[dQ];show _=some (Value.slice B2 (J.map (bV b)).length d2);rw[rK.o];exact uS.o) (fun h hh=>by(have :=ag.1 hh);subst this;exact⟨nv.o,IV.o,by show(J.map (bV b)).length<=_;rw[rK.o];omega,fun k hk=>aE qQ.o (l8.o k hk)⟩) (by simp;omega) ?_;intro A4 c4 w4 uX fG;have uP:=ae uX;have jr:=ae (tw.o.push fG (HN.o.lt (Nat.lt_succ_self _)));clear uX fG))
     clear fS;go_roundg (gk-1);case measure=>have :=HK.o;omega
     case rel=>exact⟨k+1,A4,c4,hs++[(⟨B2,d2,J.map (bV b)⟩:Ls)],by have :=HK.o;omega,by simp,by go_num,uP.o,(by rw[bE,HE.o,Qo.o,dB];rfl :_=_),jr.o⟩
    ·obtain rfl :k=am.length:=by omega
     have dR:aj (hs.map (·.l)=U++(am.map (·.l)).map (fun l=>l.map (bV b))):=by have :=HE.o;rw[dv (by rw[aG];exact aq _)]at this;exact this
     clear HK HE;go_wp2;go_ret2;exact⟨A',c',hs,rfl,HN.o.low (by omega),by rw[dR.o,Ff.o],eh.o.fr⟩
end Go.Proofs.YtpjbaobgnhjgoaaGreat
